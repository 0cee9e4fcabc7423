import Derived.Test.YtimhmmeoliagjaaDoorEnhF
import Derived.MapKept
import Derived.Calls
import Derived.Still
import Derived.LoopN
import Derived.Scope
set_option linter.unusedVariables false
namespace Go.Eng
open Go

theorem run_eqGuard_other {P : Program} {w : World} {op : BinOp} {t : TypeId} {x y : Operand} {a b : Value} (h : (∀ c d, ¬ (a = .agg c ∧ b = .agg d)) ∧ ¬ (a = .nilIface ∧ b = .nilIface)) :
    (eqGuard op t x y a b).run P w = .ok () w := by
  unfold eqGuard
  split <;> simp
  all_goals (split <;> first | exact absurd ⟨rfl, rfl⟩ h.2 | exact absurd ⟨rfl, rfl⟩ (h.1 _ _) | rfl)

theorem intB_sound {P : Program} {w : World} {op : BinOp} {t : TypeId} {k : IntKind} {a b : Int} {v : Value} (hop : op ≠ .shl ∧ op ≠ .shr) (h : intB op k a b = some v) :
    (binOp op t (.int k a) (.int k b)).run P w = .ok v w ∧ flat1 v = true := by
  cases op <;> simp only [intB] at h <;> first
    | exact absurd rfl hop.1
    | exact absurd rfl hop.2
    | (split at h
       · cases h
       · rename_i hb; simp only [Option.some.injEq] at h; subst h; simp [binOp, Op.intDiv, hb, flat1])
    | (simp only [Option.some.injEq] at h; subst h; simp [binOp, Op.intArith, Op.intBits, Op.intCmp, flat1])
theorem shiftB_sound {P : Program} {w : World} {op : BinOp} {t : TypeId} {k yk : IntKind} {a b : Int} {v : Value} (hop : op = .shl ∨ op = .shr) (h : shiftB op k a b = some v) :
    (binOp op t (.int k a) (.int yk b)).run P w = .ok v w ∧ flat1 v = true := by
  unfold shiftB at h
  split at h
  · cases h
  · rename_i hb
    rcases hop with rfl | rfl <;> simp only [Option.some.injEq] at h <;> subst h <;> simp [binOp, Op.shift, hb, flat1]
theorem strB_sound {P : Program} {w : World} {op : BinOp} {t : TypeId} {a b : ByteArray} {v : Value} (h : strB op a b = some v) :
    (binOp op t (.string a) (.string b)).run P w = .ok v w ∧ flat1 v = true := by
  cases op <;> simp only [strB] at h <;> first
    | (cases h; done)
    | (split at h
       · cases h
       · rename_i hb; simp only [Option.some.injEq] at h; subst h; simp [binOp, Op.stringOp, flat1]; simpa using hb)
    | (simp only [Option.some.injEq] at h; subst h; simp [binOp, Op.stringOp, flat1])

def WF {α : Type} (P : Program) (s : Sem α) : Prop := ∀ w0 a w1, s.run P w0 = .ok a w1 → w1 = w0 ∧ ∀ w, s.run P w = .ok a w
section
variable {α β : Type} {P : Program}
theorem WF.pure (a : α) : WF P (Pure.pure a : Sem α) := fun w0 b w1 h => by simp at h; obtain ⟨rfl, rfl⟩ := h; exact ⟨rfl, fun w => rfl⟩
theorem WF.bind {s : Sem α} {f : α → Sem β} (hs : WF P s) (hf : ∀ a, WF P (f a)) : WF P (s >>= f) := fun w0 b w1 h => by
  rw [Sem.run_bind] at h
  cases hr : s.run P w0 with
  | halt x w => simp [hr] at h
  | ok a w =>
    rw [hr] at h
    simp only [Result.andThen] at h
    obtain ⟨rfl, h2⟩ := hs _ _ _ hr
    obtain ⟨rfl, h3⟩ := hf a _ _ _ h
    exact ⟨rfl, fun w => by rw [Sem.run_bind, h2 w]; exact h3 w⟩
theorem WF.bindR {s : Sem α} {f : α → Sem β} (hs : WF P s) (hf : ∀ a w w1, s.run P w = .ok a w1 → WF P (f a)) : WF P (s >>= f) := fun w0 b w1 h => by
  rw [Sem.run_bind] at h
  cases hr : s.run P w0 with
  | halt x w => simp [hr] at h
  | ok a w =>
    rw [hr] at h
    simp only [Result.andThen] at h
    obtain ⟨rfl, h2⟩ := hs _ _ _ hr
    obtain ⟨rfl, h3⟩ := hf a _ _ hr _ _ _ h
    exact ⟨rfl, fun w => by rw [Sem.run_bind, h2 w]; exact h3 w⟩
theorem WF.halt (x : Halt) : WF P (Sem.halt x : Sem α) := fun w0 b w1 h => by simp at h
theorem WF.ite {c : Prop} [Decidable c] {a b : Sem α} (ha : WF P a) (hb : WF P b) : WF P (if c then a else b) := by split <;> assumption
theorem WF.stuck (x : String) : WF P (Go.stuck x : Sem α) := fun w0 b w1 h => by simp at h
theorem WF.unsupported (x : Unsupported) : WF P (Go.unsupported x : Sem α) := fun w0 b w1 h => by simp at h
theorem WF.program : WF P Go.program := fun w0 b w1 h => by simp at h; obtain ⟨rfl, rfl⟩ := h; exact ⟨rfl, fun w => rfl⟩
theorem WF.typeInfo (t : TypeId) : WF P (Go.typeInfo t) := by
  unfold Go.typeInfo
  refine WF.program.bind fun p => ?_
  split
  · exact WF.pure _
  · exact WF.stuck _
theorem WF.underlying (t : TypeId) : WF P (Go.underlying t) := by
  unfold Go.underlying
  refine WF.program.bind fun p => ?_
  split
  · exact WF.pure _
  · exact WF.stuck _
theorem WF.sizeOf (t : TypeId) : WF P (Go.sizeOf t) := (WF.typeInfo t).bind fun _ => WF.pure _
theorem WF.isAgg (t : TypeId) : WF P (Go.isAgg t) := by
  unfold Go.isAgg
  refine (WF.underlying t).bind fun d => ?_
  split <;> exact WF.pure _
theorem WF.part (t : TypeId) (cs : Array Value) (off : Nat) : WF P (Go.part t cs off) := by
  unfold Go.part
  refine (WF.isAgg t).bind fun b => ?_
  split
  · exact (WF.sizeOf t).bind fun _ => WF.pure _
  · split
    · exact WF.pure _
    · exact WF.stuck _
theorem WF.forInL {γ : Type} (f : γ → β → Sem (ForInStep β)) (hf : ∀ a b, WF P (f a b)) : ∀ (l : List γ) (b : β), WF P (forIn l b f)
  | [], b => by simpa using WF.pure b
  | a :: l, b => by
    rw [List.forIn_cons]
    refine (hf a b).bind fun r => ?_
    cases r with
    | done b => exact WF.pure b
    | yield b => exact WF.forInL f hf l b
end

theorem part_flat {P : Program} {t : TypeId} {cs : Array Value} {off : Nat} {w w1 : World} {v : Value} (hf : cs.all flat1 = true) (h : (part t cs off).run P w = .ok v w1) : flat v = true := by
  have hsub : ∀ a b, (cs.extract a b).all flat1 = true := fun a b => by
    rw [Array.all_eq_true] at hf ⊢
    intro i hi
    simp at hi ⊢
    exact hf _ _
  unfold part at h
  rw [Sem.run_bind] at h
  cases hr : (isAgg t).run P w with
  | halt x w => simp [hr] at h
  | ok b w2 =>
    rw [hr] at h
    simp only [Result.andThen] at h
    cases b with
    | true =>
      simp only [if_true, Sem.run_bind] at h
      cases hs : (sizeOf t).run P w2 with
      | halt x w => simp [hs] at h
      | ok k w3 => simp [hs] at h; obtain ⟨rfl, _⟩ := h; exact hsub _ _
    | false =>
      simp only [Bool.false_eq_true, if_false] at h
      split at h
      · rename_i v' hv
        simp at h
        obtain ⟨rfl, _⟩ := h
        rw [Array.all_eq_true] at hf
        have hi := (Array.getElem?_eq_some_iff.1 hv)
        have := hf _ hi.1
        rw [hi.2] at this
        cases v' <;> first | exact this | (simp [flat1] at this; done)
      · simp at h

theorem equalIn_free {P : Program} : ∀ (d : Nat) (t : TypeId) (x y : Value), flat x = true → flat y = true → WF P (Op.equalIn d t x y)
  | 0, t, x, y, _, _ => by unfold Op.equalIn; exact WF.unsupported _
  | d + 1, t, x, y, hx, hy => by
    unfold Op.equalIn
    refine (WF.underlying t).bind fun dd => ?_
    split
    all_goals first
      | exact WF.pure _
      | exact WF.stuck _
      | exact WF.unsupported _
      | (split <;> first | exact WF.pure _ | exact WF.stuck _)
      | (simp [flat, flat1] at hx; done)
      | (simp [flat, flat1] at hy; done)
      | skip
    · rename_i a b
      cases a with
      | some a => simp [flat, flat1] at hx
      | none =>
        cases b with
        | some b => simp [flat, flat1] at hy
        | none => exact WF.pure _
    · rename_i fields xs ys
      have hxs : xs.all flat1 = true := by simpa [flat] using hx
      have hys : ys.all flat1 = true := by simpa [flat] using hy
      refine WF.program.bind fun p => ?_
      dsimp only
      refine WF.ite ((WF.unsupported _).bind fun u => ?_) ?_
      all_goals
        rw [← Array.forIn_toList]
        refine (WF.forInL _ (fun f b => ?_) _ _).bind fun r => ?_
        · refine WF.ite ?_ (WF.pure _)
          exact (WF.part _ _ _).bindR fun a w w1 ha => (WF.part _ _ _).bindR fun b w2 w3 hb => (equalIn_free d _ _ _ (part_flat hxs ha) (part_flat hys hb)).bind fun r => WF.ite (WF.pure _) (WF.pure _)
        · split <;> exact WF.pure _
    · rename_i len elem xs ys
      have hxs : xs.all flat1 = true := by simpa [flat] using hx
      have hys : ys.all flat1 = true := by simpa [flat] using hy
      refine (WF.sizeOf _).bind fun n => ?_
      rw [Std.Legacy.Range.forIn_eq_forIn_range']
      refine (WF.forInL _ (fun f b => ?_) _ _).bind fun r => ?_
      · exact (WF.part _ _ _).bindR fun a w w1 ha => (WF.part _ _ _).bindR fun b w2 w3 hb => (equalIn_free d _ _ _ (part_flat hxs ha) (part_flat hys hb)).bind fun r => WF.ite (WF.pure _) (WF.pure _)
      · dsimp only; split <;> exact WF.pure _

theorem equal_succ {t : TypeId} {x y : Value} : Op.equal t x y = Op.equalIn (9999 + 1) t x y := rfl
theorem eqV_sound {P : Program} {m : Mp} {w : World} {t : TypeId} {x x' y y' : Value} {xo yo : Operand} {op : BinOp} {b : Bool} (hx : VRel m x x') (hy : VRel m y y') (h : eqV P t x y = some b) :
    (eqGuard op t xo yo x' y').run P w = .ok () w ∧ (Op.equal t x' y').run P w = .ok b w ∧ (∀ k n, x' ≠ .int k n) ∧ (∀ s, x' ≠ .string s) ∧ (∀ k n, x' ≠ .float k n) ∧ (∀ k a b, x' ≠ .complex k a b) := by
  unfold eqV at h
  split at h
  · rename_i hu
    obtain rfl := hx.bool_inv
    obtain rfl := hy.bool_inv
    simp only [Option.some.injEq] at h; subst h
    refine ⟨run_eqGuard_other (by simp), ?_, by simp, by simp, by simp, by simp⟩
    rw [equal_succ, Op.equalIn]; simp [run_underlying hu]
  · rename_i a hu
    have e1 : ∃ a', x' = .pointer a' ∧ a'.isNone = a.isNone := by
      cases hx with
      | flat hf => exact ⟨_, rfl, rfl⟩
      | ptr => exact ⟨_, rfl, rfl⟩
    obtain ⟨a', rfl, e1⟩ := e1
    obtain rfl := hy.eq_of_flat1 rfl
    simp only [Option.some.injEq] at h; subst h
    refine ⟨run_eqGuard_other (by simp), ?_, by simp, by simp, by simp, by simp⟩
    rw [equal_succ, Op.equalIn]; cases a' <;> simp [run_underlying hu] <;> simpa using e1
  · rename_i b' _ hu
    have e1 : ∃ a', y' = .pointer a' ∧ a'.isNone = b'.isNone := by
      cases hy with
      | flat hf => exact ⟨_, rfl, rfl⟩
      | ptr => exact ⟨_, rfl, rfl⟩
    obtain ⟨a', rfl, e1⟩ := e1
    obtain rfl := hx.eq_of_flat1 rfl
    simp only [Option.some.injEq] at h; subst h
    refine ⟨run_eqGuard_other (by simp), ?_, by simp, by simp, by simp, by simp⟩
    rw [equal_succ, Op.equalIn]; cases a' <;> simp [run_underlying hu] <;> simpa using e1
  · rename_i a n c n' c' hu
    have e1 : ∃ a' c2, x' = .slice a' n c2 ∧ a'.isNone = a.isNone := by
      cases hx with
      | flat hf => exact ⟨_, _, rfl, rfl⟩
      | slc => exact ⟨_, _, rfl, rfl⟩
      | slx => exact ⟨_, _, rfl, rfl⟩
      | sl0 => exact ⟨_, _, rfl, rfl⟩
    obtain ⟨a', c2, rfl, e1⟩ := e1
    obtain ⟨_, _, rfl⟩ := hy.slice_nil_inv
    simp only [Option.some.injEq] at h; subst h
    refine ⟨run_eqGuard_other (by simp), ?_, by simp, by simp, by simp, by simp⟩
    rw [equal_succ, Op.equalIn]; cases a' <;> simp [run_underlying hu] <;> simpa using e1
  · rename_i n c a n' c' _ hu
    have e1 : ∃ a' c2, y' = .slice a' n' c2 ∧ a'.isNone = a.isNone := by
      cases hy with
      | flat hf => exact ⟨_, _, rfl, rfl⟩
      | slc => exact ⟨_, _, rfl, rfl⟩
      | slx => exact ⟨_, _, rfl, rfl⟩
      | sl0 => exact ⟨_, _, rfl, rfl⟩
    obtain ⟨a', c2, rfl, e1⟩ := e1
    obtain ⟨_, _, rfl⟩ := hx.slice_nil_inv
    simp only [Option.some.injEq] at h; subst h
    refine ⟨run_eqGuard_other (by simp), ?_, by simp, by simp, by simp, by simp⟩
    rw [equal_succ, Op.equalIn]; cases a' <;> simp [run_underlying hu] <;> simpa using e1
  · rename_i a hu
    have e1 : ∃ a', x' = .map a' ∧ a'.isNone = a.isNone := by
      cases hx with
      | flat hf => exact ⟨_, rfl, rfl⟩
      | mapv => exact ⟨_, rfl, rfl⟩
    obtain ⟨a', rfl, e1⟩ := e1
    obtain rfl := hy.eq_of_flat1 rfl
    simp only [Option.some.injEq] at h; subst h
    refine ⟨run_eqGuard_other (by simp), ?_, by simp, by simp, by simp, by simp⟩
    rw [equal_succ, Op.equalIn]; cases a' <;> simp [run_underlying hu] <;> simpa using e1
  · rename_i a _ hu
    have e1 : ∃ a', y' = .map a' ∧ a'.isNone = a.isNone := by
      cases hy with
      | flat hf => exact ⟨_, rfl, rfl⟩
      | mapv => exact ⟨_, rfl, rfl⟩
    obtain ⟨a', rfl, e1⟩ := e1
    obtain rfl := hx.eq_of_flat1 rfl
    simp only [Option.some.injEq] at h; subst h
    refine ⟨run_eqGuard_other (by simp), ?_, by simp, by simp, by simp, by simp⟩
    rw [equal_succ, Op.equalIn]; cases a' <;> simp [run_underlying hu] <;> simpa using e1
  all_goals first
    | (cases h; done)
    | (rename_i a b _
       unfold eqA at h
       split at h
       case isFalse => cases h
       rename_i hc
       simp only [Bool.and_eq_true, Bool.not_eq_true'] at hc
       split at h
       case h_2 => cases h
       rename_i b' w1 hrun
       simp only [Option.some.injEq] at h; subst h
       have ex : x' = .agg a := by
         obtain ⟨cs', rfl, hl⟩ := hx.agg_inv
         have := hl.eq_flat (by simpa [flat, Array.all_toList] using hc.1.1)
         congr 1; exact Array.ext' this
       have ey : y' = .agg b := by
         obtain ⟨cs', rfl, hl⟩ := hy.agg_inv
         have := hl.eq_flat (by simpa [flat, Array.all_toList] using hc.1.2)
         congr 1; exact Array.ext' this
       subst ex; subst ey
       refine ⟨?_, ((equalIn_free _ _ _ _ hc.1.1 hc.1.2) _ _ _ hrun).2 w, by simp, by simp, by simp, by simp⟩
       unfold eqGuard
       split <;> simp [hc.2])

theorem binB_sound {P : Program} {m : Mp} {w : World} {t : TypeId} {x x' y y' v : Value} {xo yo : Operand} {op : BinOp} (hx : VRel m x x') (hy : VRel m y y') (h : binB P op t x y = some v) :
    (do eqGuard op t xo yo x' y'; binOp op t x' y' : Sem Value).run P w = .ok v w ∧ VRel m v v := by
  unfold binB at h
  split at h
  · rename_i k a k' b
    obtain rfl := hx.int_inv
    obtain rfl := hy.int_inv
    rw [Sem.run_bind, run_eqGuard_other (by simp)]
    simp only [Result.andThen]
    split at h
    · obtain ⟨h1, h2⟩ := shiftB_sound (P := P) (w := w) (t := t) (yk := k') (.inl rfl) h
      exact ⟨h1, .flat h2⟩
    · obtain ⟨h1, h2⟩ := shiftB_sound (P := P) (w := w) (t := t) (yk := k') (.inr rfl) h
      exact ⟨h1, .flat h2⟩
    · rename_i n1 n2
      split at h
      case isFalse => cases h
      rename_i hk
      subst hk
      obtain ⟨h1, h2⟩ := intB_sound (P := P) (w := w) (t := t) ⟨n1, n2⟩ h
      exact ⟨h1, .flat h2⟩
  · obtain rfl := hx.string_inv
    obtain rfl := hy.string_inv
    rw [Sem.run_bind, run_eqGuard_other (by simp)]
    simp only [Result.andThen]
    obtain ⟨h1, h2⟩ := strB_sound (P := P) (w := w) (t := t) h
    exact ⟨h1, .flat h2⟩
  · have key : ∀ (o : BinOp) (b : Bool), o = .eql ∨ o = .neq → eqV P t x y = some b → (do eqGuard o t xo yo x' y'; binOp o t x' y' : Sem Value).run P w = .ok (.bool (if o = .eql then b else !b)) w := fun o b ho hb => by
      obtain ⟨g1, g2, g3, g4, g5, g6⟩ := eqV_sound (w := w) (xo := xo) (yo := yo) (op := o) hx hy hb
      rw [Sem.run_bind, g1]
      simp only [Result.andThen]
      have : binOp o t x' y' = (if o = .eql then (do pure (.bool (← Op.equal t x' y'))) else (do pure (.bool (!(← Op.equal t x' y')))) : Sem Value) := by
        rcases ho with rfl | rfl
        · cases x' <;> first | exact absurd rfl (g3 _ _) | exact absurd rfl (g4 _) | exact absurd rfl (g5 _ _) | exact absurd rfl (g6 _ _ _) | (simp [binOp])
        · cases x' <;> first | exact absurd rfl (g3 _ _) | exact absurd rfl (g4 _) | exact absurd rfl (g5 _ _) | exact absurd rfl (g6 _ _ _) | (simp [binOp])
      rw [this]
      rcases ho with rfl | rfl <;> simp [g2]
    split at h
    · simp only [Option.map_eq_some_iff] at h
      obtain ⟨b, hb, rfl⟩ := h
      exact ⟨by simpa using key .eql b (.inl rfl) hb, .flat rfl⟩
    · simp only [Option.map_eq_some_iff] at h
      obtain ⟨b, hb, rfl⟩ := h
      exact ⟨by simpa using key .neq b (.inr rfl) hb, .flat rfl⟩
    · cases h

theorem unB_sound {P : Program} {m : Mp} {w : World} {x x' v : Value} {op : UnOp} (hx : VRel m x x') (h : unB op x = some v) : (Op.unary op x').run P w = .ok v w ∧ VRel m v v := by
  unfold unB at h
  split at h
  · obtain rfl := hx.int_inv
    simp only [Option.some.injEq] at h; subst h
    exact ⟨by simp [Op.unary, Op.intArith], .flat rfl⟩
  · obtain rfl := hx.int_inv
    simp only [Option.some.injEq] at h; subst h
    exact ⟨by simp [Op.unary, Op.intBits], .flat rfl⟩
  · obtain rfl := hx.bool_inv
    simp only [Option.some.injEq] at h; subst h
    exact ⟨by simp [Op.unary], .flat rfl⟩
  · cases h

theorem lenB_sound {P : Program} {m : Mp} {w : World} {x x' v : Value} {t ty : TypeId} {ts : Array TypeId} (hx : VRel m x x') (h0 : ts[0]? = some t) (h : lenB P t x = some v) : (Builtin.len_ ts ty #[x']).run P w = .ok v w ∧ VRel m v v := by
  unfold lenB at h
  split at h
  · rename_i s hu
    obtain rfl := hx.string_inv
    simp only [Option.some.injEq] at h; subst h
    exact ⟨by simp [Builtin.len_, h0, run_underlying hu, goInt], .flat rfl⟩
  · rename_i n e hu
    simp only [Option.some.injEq] at h; subst h
    exact ⟨by simp [Builtin.len_, h0, run_underlying hu, goInt], .flat rfl⟩
  · rename_i e a n c hu
    simp only [Option.some.injEq] at h; subst h
    have : ∃ a' c', x' = .slice a' n c' := by
      cases hx with
      | flat hf => exact ⟨_, _, rfl⟩
      | slc => exact ⟨_, _, rfl⟩
      | slx => exact ⟨_, _, rfl⟩
      | sl0 => exact ⟨_, _, rfl⟩
    obtain ⟨a', c', rfl⟩ := this
    exact ⟨by simp [Builtin.len_, h0, run_underlying hu, goInt], .flat rfl⟩
  · cases h

theorem capB_sound {P : Program} {m : Mp} {w : World} {x x' v : Value} {t ty : TypeId} {ts : Array TypeId} (hx : VRel m x x') (h0 : ts[0]? = some t) (h : capB P t x = some v) : (Builtin.cap_ ts ty #[x']).run P w = .ok v w ∧ VRel m v v := by
  unfold capB at h
  split at h
  · rename_i n e hu
    simp only [Option.some.injEq] at h; subst h
    exact ⟨by simp [Builtin.cap_, h0, run_underlying hu, goInt], .flat rfl⟩
  · rename_i e a n hu
    simp only [Option.some.injEq] at h; subst h
    obtain ⟨rfl, rfl, rfl⟩ := hx.slice_nil_inv
    exact ⟨by simp [Builtin.cap_, h0, run_underlying hu, goInt], .flat rfl⟩
  · rename_i e b o k n c hu
    simp only [Option.some.injEq] at h; subst h
    have : ∃ a', x' = .slice a' n c := by
      rcases hx.slice_inv with ⟨rfl, rfl, a', rfl⟩ | ⟨p, cap', hp, rfl, g1, g2, g3, g4⟩
      · exact ⟨_, rfl⟩
      · rcases g4 with g4 | g4
        · cases g4
        · rw [g4.2]; exact ⟨_, rfl⟩
    obtain ⟨a', rfl⟩ := this
    exact ⟨by simp [Builtin.cap_, h0, run_underlying hu, goInt], .flat rfl⟩
  · cases h

end Go.Eng

set_option linter.unusedVariables false
namespace Go.Eng
open Go

theorem Step.newObj {m : Mp} {H : Heap} {w w1 : World} (hr : HRel m H w) (hl : MLow m H.n) {o : Ob} {x : Obj} (ho : ObRel m o x)
    (hw : w1.heap = w.heap.push x) (hos : w1.os = w.os) (ht : w1.tape = w.tape) (hout : w1.output = w.output) : Step m H w (mput m H.n ⟨w.heap.size, 0, 0⟩) (H.push (obj o)) w1 := by
  have hle := mput_le hl ⟨w.heap.size, 0, 0⟩
  have hold : ∀ i, i < w.heap.size → w1.heap[i]? = w.heap[i]? := fun i hi => by rw [hw, Array.getElem?_push]; simp [Nat.ne_of_lt hi]
  have hnew : w1.heap[w.heap.size]? = some x := by rw [hw]; simp
  have hmb : ∀ b q blk, H.get b = some blk → mput m H.n ⟨w.heap.size, 0, 0⟩ b = some q → m b = some q := fun b q blk hb hq => by
    have := hr.low b blk hb
    simp only [mput] at hq
    rwa [if_neg (by omega)] at hq
  have hblt : ∀ b q blk, H.get b = some blk → m b = some q → q.blk < w.heap.size := fun b q blk hb hq => (hr.blk b blk q hb hq).lt
  refine ⟨?_, by simp [Heap.push], ⟨?_, ?_, ?_, ?_, ?_⟩, by rw [hw]; simp, fun c hc _ => hold c hc, ?_, hos, ht, hout, ?_, ?_, ?_, ?_⟩
  · intro b hb; simp only [mput]; rw [if_neg (by omega)]
  · intro b blk hb
    simp only [Heap.push] at hb ⊢
    split at hb
    · omega
    · have := hr.low _ _ hb; omega
  · intro b blk p hb hp
    simp only [Heap.push] at hb
    split at hb
    · rename_i he
      subst he
      injection hb with hb; subst hb
      simp only [mput, if_true] at hp
      injection hp with hp; subst hp
      exact .inr ⟨o, x, rfl, rfl, rfl, hnew, ho.mono hle⟩
    · exact ((hr.blk b blk p hb (hmb b p blk hb hp)).mono hle).at (hold _ (hblt b p blk hb (hmb b p blk hb hp)))
  · intro b1 b2 k1 k2 p1 p2 hne e1 o1 e2 m1 m2
    simp only [Heap.push] at e1 e2
    split at e1
    · rename_i he
      subst he
      split at e2
      · rename_i he2; exact absurd he2.symm hne
      · have h2 := hblt _ _ _ e2 (hmb _ _ _ e2 m2)
        simp only [mput, if_true] at m1
        injection m1 with m1; subst m1
        simp only; omega
    · split at e2
      · rename_i he2
        subst he2
        have h1 := hblt _ _ _ e1 (hmb _ _ _ e1 m1)
        simp only [mput, if_true] at m2
        injection m2 with m2; subst m2
        simp only; omega
      · exact hr.inj b1 b2 k1 k2 p1 p2 hne e1 o1 e2 (hmb _ _ _ e1 m1) (hmb _ _ _ e2 m2)
  · intro b blk hb
    simp only [Heap.push] at hb
    split at hb
    · injection hb with hb; subst hb; rfl
    · exact hr.one b blk hb
  · intro b blk p hb ho hp
    simp only [Heap.push] at hb
    split at hb
    · injection hb with hb; subst hb; cases ho
    · exact hr.froz b blk p hb ho (hmb b p blk hb hp)
  · intro b blk p hb ho hp hlt
    simp only [Heap.push] at hb
    split at hb
    · rename_i he
      subst he
      simp only [mput, if_true] at hp
      injection hp with hp; subst hp
      simp at hlt
    · exact ⟨b, blk, p, hb, ho, hmb b p blk hb hp, rfl⟩
  · intro b blk hlt hb _
    simp only [Heap.push]; rw [if_neg (by omega)]; exact hb
  · intro b blk hlt hb _
    simp only [Heap.push] at hb; rw [if_neg (by omega)] at hb; exact hb
  · intro _ b p hp
    simp only [mput] at hp
    simp only [Heap.push]
    split at hp
    · omega
    · have := hl b p hp; omega
  · intro b blk h1 hb
    simp only [Heap.push] at hb
    split at hb
    · injection hb with hb; subst hb; rfl
    · have := hr.low _ _ hb; omega
theorem Step.setObj {m : Mp} {H : Heap} {w : World} (hr : HRel m H w) {b : Nat} {o o' : Ob} {x x' : Obj} {p : Pl} (hb : H.get b = some (obj o)) (hm : m b = some p) (hx : w.heap[p.blk]? = some x) (ho : ObRel m o' x') :
    Step m H w m (H.upd b (some (obj o'))) { w with heap := w.heap.setIfInBounds p.blk x' } := by
  have hg : p.blk < w.heap.size := (Array.getElem?_eq_some_iff.1 hx).1
  have hset : ∀ i, (w.heap.setIfInBounds p.blk x')[i]? = if p.blk = i then some x' else w.heap[i]? := fun i => by
    rw [Array.getElem?_setIfInBounds]
    by_cases hi : p.blk = i
    · subst hi; simp [hg]
    · simp [hi]
  have hpl := hr.blk b _ p hb hm
  have h0 : p.off = 0 ∧ p.room = 0 := by
    rcases hpl with h | ⟨_, _, _, h1, h2, _⟩
    · cases h.1
    · exact ⟨h1, h2⟩
  refine ⟨fun _ _ => rfl, Nat.le_refl _, ⟨?_, ?_, ?_, ?_, ?_⟩, by simp, ?_, ?_, rfl, rfl, rfl, ?_, ?_, id, ?_⟩
  · intro b' blk' hb'
    simp only [Heap.upd] at hb' ⊢
    split at hb'
    · rename_i he; subst he; exact hr.low _ _ hb
    · exact hr.low _ _ hb'
  · intro b' blk' p' hb' hm'
    simp only [Heap.upd] at hb'
    split at hb'
    · rename_i he
      subst he
      rw [hm] at hm'
      injection hm' with hm'; subst hm'
      injection hb' with hb'; subst hb'
      exact .inr ⟨o', x', rfl, h0.1, h0.2, by simp only [hset, if_true], ho⟩
    · rename_i hne
      have : p.blk ≠ p'.blk := hr.inj b b' _ blk' p p' (Ne.symm hne) hb rfl hb' hm hm'
      exact (hr.blk b' blk' p' hb' hm').at (by simp only [hset, if_neg this])
  · intro b1 b2 k1 k2 p1 p2 hne e1 o1 e2 m1 m2
    simp only [Heap.upd] at e1 e2
    have f1 : ∃ k, H.get b1 = some k ∧ k.own = true := by
      split at e1
      · rename_i he; subst he; exact ⟨_, hb, rfl⟩
      · exact ⟨k1, e1, o1⟩
    have f2 : ∃ k, H.get b2 = some k := by
      split at e2
      · rename_i he; subst he; exact ⟨_, hb⟩
      · exact ⟨k2, e2⟩
    obtain ⟨j1, f1, f1'⟩ := f1
    obtain ⟨j2, f2⟩ := f2
    exact hr.inj b1 b2 j1 j2 p1 p2 hne f1 f1' f2 m1 m2
  · intro b' blk' hb'
    simp only [Heap.upd] at hb'
    split at hb'
    · injection hb' with hb'; subst hb'; rfl
    · exact hr.one b' blk' hb'
  · intro b' blk' p' hb' ho'
    simp only [Heap.upd] at hb'
    split at hb'
    · injection hb' with hb'; subst hb'; cases ho'
    · exact hr.froz b' blk' p' hb' ho'
  · intro c hc hn
    simp only [hset]
    rw [if_neg (hn b _ p hb rfl hm)]
  · intro b' blk' p' hb' ho' hm' hlt
    simp only [Heap.upd] at hb'
    split at hb'
    · rename_i he; subst he; exact ⟨b', _, p', hb, rfl, hm', rfl⟩
    · exact ⟨b', blk', p', hb', ho', hm', rfl⟩
  · intro b' blk' hlt hb' ho'
    simp only [Heap.upd]
    rw [if_neg (fun he => by subst he; rw [hb] at hb'; injection hb' with hb'; subst hb'; cases ho')]
    exact hb'
  · intro b' blk' hlt hb' ho'
    simp only [Heap.upd] at hb'
    split at hb'
    · injection hb' with hb'; subst hb'; cases ho'
    · exact hb'
  · intro b' blk' h1 hb'
    simp only [Heap.upd] at hb'
    split at hb'
    · injection hb' with hb'; subst hb'; rfl
    · have := hr.low _ _ hb'; omega

theorem obAt_inv {H : Heap} {b : Nat} {o : Ob} (h : obAt H b = some o) : ∃ k, H.get b = some k ∧ k.ob.o = some o := by
  unfold obAt at h
  simp only [Option.bind_eq_some_iff] at h
  exact h
theorem obAt_rel {m : Mp} {H : Heap} {w : World} (hr : HRel m H w) {b : Nat} {o : Ob} {p : Pl} (h : obAt H b = some o) (hm : m b = some p) :
    H.get b = some (obj o) ∧ p.off = 0 ∧ ∃ x, w.heap[p.blk]? = some x ∧ ObRel m o x := by
  obtain ⟨k, h1, h2⟩ := obAt_inv h
  rcases hr.blk b k p h1 hm with q | ⟨o', x, rfl, q2, q3, q4, q5⟩
  · have := q.1
    simp only [Blk.plain, h2] at this; cases this
  · have e : o' = o := Option.some.inj h2
    subst e
    exact ⟨h1, q2, x, q4, q5⟩
theorem VRel.map_inv {m : Mp} {b : Nat} {v' : Value} (h : VRel m (.map (some b)) v') : ∃ p, m b = some p ∧ v' = .map (some p.blk) := by
  cases h with
  | flat h => simp [flat1] at h
  | mapv h => exact ⟨_, h, rfl⟩

section
variable {P : Program} {m : Mp} {H H' : Heap} {w : World} {x x' k k' y y' v : Value} {t kt et : TypeId} {d : TypeDesc}
theorem rngS_sound (hr : HRel m H w) (hl : MLow m H.n) (hx : VRel m x x') (hu : P.underlying t = some .string) (h : rngS x H = some (v, H')) :
    ∃ m' v' w', (Instr.range t x').run P w = .ok v' w' ∧ VRel m' v v' ∧ Step m H w m' H' w' := by
  unfold rngS at h
  split at h
  case h_2 => cases h
  rename_i s
  obtain rfl := hx.string_inv
  simp only [Option.some.injEq, Prod.mk.injEq] at h
  obtain ⟨rfl, rfl⟩ := h
  refine ⟨_, .pointer (some ⟨w.heap.size, 0, none⟩), w.alloc (.stringIter s 0), by simp [Instr.range, run_underlying hu, Result.andThen], ?_, Step.newObj hr hl (x := .stringIter s 0) rfl rfl rfl rfl rfl⟩
  have := VRel.ptr (m := mput m H.n ⟨w.heap.size, 0, 0⟩) (b := H.n) (o := 0) (p := ⟨w.heap.size, 0, 0⟩) (by simp [mput])
  simpa using this
theorem nxtS_sound (hr : HRel m H w) (hx : VRel m x x') (h : nxtS x H = some (v, H')) :
    ∃ w', (Instr.next x' true t).run P w = .ok v w' ∧ VRel m v v ∧ Step m H w m H' w' := by
  unfold nxtS at h
  split at h
  case h_2 => cases h
  rename_i b
  obtain ⟨p, hp, rfl⟩ := hx.ptr_inv
  split at h
  case h_2 => cases h
  rename_i s pos hob
  obtain ⟨q1, q2, ob, q3, q4⟩ := obAt_rel hr hob hp
  obtain rfl : ob = .stringIter s pos := q4
  have e0 : (getObj p.blk).run P w = .ok (.stringIter s pos) w := by simp [getObj, Sem.run, q3]
  have e1 : ∀ o, (setObj p.blk o).run P w = .ok () { w with heap := w.heap.setIfInBounds p.blk o } := fun o => by simp [setObj, Sem.run, q3]
  split at h
  · rename_i hlt
    simp only [Option.some.injEq, Prod.mk.injEq] at h
    obtain ⟨rfl, rfl⟩ := h
    refine ⟨_, by simp [Instr.next, q2, e0, e1, hlt, goInt, Result.andThen], .tuple' (LRel.cons (.flat rfl) (LRel.cons (.flat rfl) (LRel.cons (.flat rfl) .nil))), Step.setObj hr q1 hp q3 rfl⟩
  · rename_i hge
    simp only [Option.some.injEq, Prod.mk.injEq] at h
    obtain ⟨rfl, rfl⟩ := h
    exact ⟨w, by simp [Instr.next, q2, e0, hge, Result.andThen], .tuple' (LRel.cons (.flat rfl) .nil), Step.refl hr⟩
theorem mkM_sound (hr : HRel m H w) (hl : MLow m H.n) (hu : P.underlying t = some (.map kt et)) {r r' : Option Value} (hrr : ∀ y, r' = some y → ∃ ik n, y = .int ik n) (h : mkM H = some (v, H')) :
    ∃ m' v' w', (Instr.makeMap t r').run P w = .ok v' w' ∧ VRel m' v v' ∧ Step m H w m' H' w' := by
  unfold mkM at h
  simp only [Option.some.injEq, Prod.mk.injEq] at h
  obtain ⟨rfl, rfl⟩ := h
  refine ⟨_, .map (some w.heap.size), w.alloc (.map #[] 0), ?_, ?_, Step.newObj hr hl (x := .map #[] 0) ⟨#[], rfl, rfl, by simp⟩ rfl rfl rfl rfl⟩
  · cases r' with
    | none => simp [Instr.makeMap, Result.andThen]
    | some y =>
      obtain ⟨ik, n, rfl⟩ := hrr y rfl
      simp [Instr.makeMap, run_underlying hu, asInt, asIntOf, Result.andThen]
  · exact .mapv (p := ⟨w.heap.size, 0, 0⟩) (by simp [mput])
theorem keyB_is (h : keyB d k = true) : MapKept.IsKey d k := by
  unfold keyB at h
  split at h
  · trivial
  · trivial
  · have h := beq_iff_eq.1 h
    simp [MapKept.IsKey, h]
  · cases h
theorem findM_sound {es : List Ent} {es' : List MapEntry} (hlen : es'.length = es.length) (he : ∀ (i : Nat) e, es[i]? = some e → flat1 e.key = true ∧ ∃ v', es'[i]? = some ⟨e.key, v', e.born⟩ ∧ VRel m e.val v') :
    ∀ {i : Nat} {r : Option (Nat × Value)}, findM d k es i = some r → (r = none ∧ Instr.findNow d k es' i = some none) ∨
      ∃ j v v', r = some (i + j, v) ∧ Instr.findNow d k es' i = some (some (i + j, v')) ∧ VRel m v v' ∧ ∃ e, es[j]? = some e ∧ Instr.sameNow d k e.key = some true := by
  induction es generalizing es' with
  | nil =>
    intro i r h
    have : es' = [] := List.length_eq_zero_iff.1 hlen
    subst this
    simp only [findM, Option.some.injEq] at h
    exact .inl ⟨h.symm, rfl⟩
  | cons e es ih =>
    intro i r h
    obtain ⟨_, v', h1, h2⟩ := he 0 e rfl
    cases es' with
    | nil => simp at hlen
    | cons e' es' =>
      simp only [List.getElem?_cons_zero, Option.some.injEq] at h1
      subst h1
      simp only [findM] at h
      split at h
      · rename_i hs
        simp only [Option.some.injEq] at h
        subst h
        exact .inr ⟨0, e.val, v', rfl, by simp [Instr.findNow, hs], h2, e, rfl, hs⟩
      · rename_i hs
        rcases ih (by simpa using hlen) (fun j x hx => by have := he (j + 1) x (by simpa using hx); simpa using this) h with ⟨r1, r2⟩ | ⟨j, u, u', r1, r2, r3, x, r4, r5⟩
        · exact .inl ⟨r1, by simp [Instr.findNow, hs, r2]⟩
        · exact .inr ⟨j + 1, u, u', by rw [r1]; congr 2; omega, by simp only [Instr.findNow, hs, r2]; congr 3; omega, r3, x, by simpa using r4, r5⟩
      · cases h
theorem lkM_sound (hr : HRel m H w) (hx : VRel m x x') (hk : keyB d k = true) (hu : P.underlying t = some (.map kt et)) (hd : P.underlying kt = some d) {z : Value} (hz : zeroOf P et = some z) {ok : Bool} (h : lkM d z ok x k H = some (v, H')) :
    H' = H ∧ ∃ v', (Instr.lookup t x' k ok).run P w = .ok v' w ∧ VRel m v v' := by
  have hzr := run_zero (P := P) hz
  have hzv : VRel m z z := VRel.ofFlat (zeroOf_inv hz).2
  have hck : ∀ e, (Instr.checkKey e 10000 kt k).run P w = .ok () w := fun e => MapKept.run_checkKey hd (keyB_is hk) e 9999
  have two : ∀ {a a' : Value} {b : Bool}, VRel m a a' → VRel m (if ok then .tuple #[a, .bool b] else a) (if ok then .tuple #[a', .bool b] else a') := fun {a a' b} ha => by
    cases ok with
    | true => exact .tuple' (LRel.cons ha (LRel.cons (.flat rfl) .nil))
    | false => exact ha
  unfold lkM at h
  split at h
  · obtain rfl := hx.eq_of_flat1 rfl
    simp only [Option.some.injEq, Prod.mk.injEq] at h
    obtain ⟨rfl, rfl⟩ := h
    refine ⟨rfl, if ok then .tuple #[z, .bool false] else z, ?_, two hzv⟩
    simp [Instr.lookup, run_underlying hu, hck, MapKept.run_findKey (l := []) hd (show Instr.findNow d k [] 0 = some none from rfl), hzr, Result.andThen]
  · rename_i b
    obtain ⟨p, hp, rfl⟩ := hx.map_inv
    split at h
    case h_2 => cases h
    rename_i es clock hob
    obtain ⟨q1, q2, ob, q3, q4⟩ := obAt_rel hr hob hp
    obtain ⟨es', rfl, h1, h2⟩ := q4
    have hg := MapKept.run_getObj_map (P := P) q3
    split at h
    · rename_i i u hf
      simp only [Option.some.injEq, Prod.mk.injEq] at h
      obtain ⟨rfl, rfl⟩ := h
      rcases findM_sound h1 h2 hf with ⟨r1, _⟩ | ⟨j, u1, u', r1, r2, r3, _⟩
      · cases r1
      · simp only [Option.some.injEq, Prod.mk.injEq] at r1
        obtain ⟨_, rfl⟩ := r1
        refine ⟨rfl, if ok then .tuple #[u', .bool true] else u', ?_, two r3⟩
        simp [Instr.lookup, run_underlying hu, hg, hck, MapKept.run_findKey hd r2, Result.andThen]
    · rename_i hf
      simp only [Option.some.injEq, Prod.mk.injEq] at h
      obtain ⟨rfl, rfl⟩ := h
      rcases findM_sound h1 h2 hf with ⟨_, r2⟩ | ⟨j, u1, u', r1, _⟩
      · refine ⟨rfl, if ok then .tuple #[z, .bool false] else z, ?_, two hzv⟩
        simp [Instr.lookup, run_underlying hu, hg, hck, MapKept.run_findKey hd r2, hzr, Result.andThen]
      · cases r1
    · cases h
  · cases h
theorem sameNow_key {a b : Value} (ha : keyB d a = true) (h : Instr.sameNow d a b = some true) : b = a := by
  unfold Instr.sameNow at h
  split at h
  · split at h
    · rename_i hk
      subst hk
      simp only [Option.some.injEq, beq_iff_eq] at h
      rw [h]
    · cases h
  · simp only [Option.some.injEq] at h
    have : _ := (MapKept.bytes_beq _ _).1 h
    rw [this]
  · simp only [Option.some.injEq, beq_iff_eq] at h
    rw [h]
  · cases h
theorem keyB_flat (h : keyB d k = true) : flat1 k = true := by
  unfold keyB at h
  split at h <;> first | rfl | cases h
theorem upM_sound (hr : HRel m H w) (hx : VRel m x x') (hk : keyB d k = true) (hy : VRel m y y') (hu : P.underlying t = some (.map kt et)) (hd : P.underlying kt = some d) (h : upM d x k y H = some (v, H')) :
    v = undef ∧ ∃ w', (Instr.mapUpdate t x' k y').run P w = .ok () w' ∧ Step m H w m H' w' := by
  have hck : ∀ e, (Instr.checkKey e 10000 kt k).run P w = .ok () w := fun e => MapKept.run_checkKey hd (keyB_is hk) e 9999
  unfold upM at h
  split at h
  case h_2 => cases h
  rename_i b
  obtain ⟨p, hp, rfl⟩ := hx.map_inv
  split at h
  case h_2 => cases h
  rename_i es clock hob
  obtain ⟨q1, q2, ob, q3, q4⟩ := obAt_rel hr hob hp
  obtain ⟨es', rfl, h1, h2⟩ := q4
  have hg := MapKept.run_getObj_map (P := P) q3
  have hs := fun o => MapKept.run_setObj_map (P := P) o q3
  split at h
  · rename_i i u hf
    simp only [Option.some.injEq, Prod.mk.injEq] at h
    obtain ⟨rfl, rfl⟩ := h
    rcases findM_sound h1 h2 hf with ⟨r1, _⟩ | ⟨j, u1, u', r1, r2, r3, e, r4, r5⟩
    · cases r1
    · simp only [Option.some.injEq, Prod.mk.injEq, Nat.zero_add] at r1
      obtain ⟨rfl, rfl⟩ := r1
      have hek : e.key = k := sameNow_key hk r5
      obtain ⟨_, v', e1, e2⟩ := h2 i e r4
      have e1' : es'[i]? = some ⟨e.key, v', e.born⟩ := by simpa using e1
      have hst : (Instr.keyThatStays (((es'[i]?).map (·.key)).getD k) k).run P w = .ok k w := by
        rw [e1']
        simp only [Option.map_some, Option.getD_some, hek]
        exact MapKept.run_keyThatStays (keyB_is hk)
      refine ⟨rfl, _, ?_, Step.setObj (o' := .map (es.modify i fun e => ⟨k, y, e.born⟩) clock) (x' := .map (es'.modify i fun e => { e with key := k, val := y' }) clock) hr q1 hp q3 ⟨_, rfl, by simp [h1], ?_⟩⟩
      · rw [Nat.zero_add] at r2
        simp only [Instr.mapUpdate, Sem.run_bind, run_underlying hu, hg, hck, MapKept.run_findKey hd r2, Result.andThen, hst, hs]
      · intro l x hx
        simp only [List.getElem?_modify, Option.map_eq_map, Option.map_eq_some_iff] at hx
        obtain ⟨x0, hx0, rfl⟩ := hx
        obtain ⟨g1, g2, g3, g4⟩ := h2 l x0 hx0
        simp only [Array.toList_modify, List.getElem?_modify, g3]
        by_cases hl : i = l
        · subst hl
          simp only [if_true]
          exact ⟨keyB_flat hk, y', rfl, hy⟩
        · simp only [if_neg hl]
          exact ⟨g1, g2, rfl, g4⟩
  · rename_i hf
    simp only [Option.some.injEq, Prod.mk.injEq] at h
    obtain ⟨rfl, rfl⟩ := h
    rcases findM_sound h1 h2 hf with ⟨_, r2⟩ | ⟨j, u1, u', r1, _⟩
    · refine ⟨rfl, _, ?_, Step.setObj (o' := .map (es ++ [⟨k, y, clock⟩]) (clock + 1)) (x' := .map (es'.push ⟨k, y', clock⟩) (clock + 1)) hr q1 hp q3 ⟨_, rfl, by simp [h1], ?_⟩⟩
      · simp only [Instr.mapUpdate, Sem.run_bind, run_underlying hu, hg, hck, MapKept.run_findKey hd r2, Result.andThen, hs]
      · intro l x hx
        rcases Nat.lt_or_ge l es.length with hl | hl
        · rw [List.getElem?_append_left hl] at hx
          obtain ⟨g1, g2, g3, g4⟩ := h2 l x hx
          refine ⟨g1, g2, ?_, g4⟩
          simp only [Array.toList_push]
          rw [List.getElem?_append_left (by omega)]; exact g3
        · rw [List.getElem?_append_right hl] at hx
          have hl0 : l - es.length = 0 := by
            have := (List.getElem?_eq_some_iff.1 hx).1
            simp at this; omega
          rw [hl0] at hx
          simp only [List.getElem?_cons_zero, Option.some.injEq] at hx
          subst hx
          refine ⟨keyB_flat hk, y', ?_, hy⟩
          simp only [Array.toList_push]
          rw [List.getElem?_append_right (by omega), h1, hl0]; rfl
    · cases r1
  · cases h
theorem lenM_sound {ty : TypeId} {ts : Array TypeId} (hr : HRel m H w) (hx : VRel m x x') (h0 : ts[0]? = some t) (hu : P.underlying t = some (.map kt et)) (h : lenM x H = some (v, H')) :
    H' = H ∧ (Builtin.len_ ts ty #[x']).run P w = .ok v w ∧ VRel m v v := by
  unfold lenM at h
  split at h
  · obtain rfl := hx.eq_of_flat1 rfl
    simp only [Option.some.injEq, Prod.mk.injEq] at h
    obtain ⟨rfl, rfl⟩ := h
    exact ⟨rfl, by simp [Builtin.len_, h0, run_underlying hu, goInt], .flat rfl⟩
  · rename_i b
    obtain ⟨p, hp, rfl⟩ := hx.map_inv
    split at h
    case h_2 => cases h
    rename_i es clock hob
    obtain ⟨q1, q2, ob, q3, q4⟩ := obAt_rel hr hob hp
    obtain ⟨es', rfl, h1, h2⟩ := q4
    simp only [Option.some.injEq, Prod.mk.injEq] at h
    obtain ⟨rfl, rfl⟩ := h
    have h1' : es'.size = es.length := by simpa using h1
    exact ⟨rfl, by simp [Builtin.len_, h0, run_underlying hu, goInt, MapKept.run_getObj_map q3, Result.andThen, h1'], .flat rfl⟩
  · cases h
end
end Go.Eng

set_option linter.unusedVariables false
namespace Go.Eng
open Go

def GOK (P : Program) (gl : Bool) (m : Mp) : Prop := gl = true → ∀ g, g < P.globals.size → m g = some ⟨g, 0, 0⟩
def CSound (P : Program) (gl : Bool) (C : CallF) : Prop := ∀ (f : FuncId) (args : List Value) (H : Heap) (v : Value) (H' : Heap), C f args H = some (v, H') →
  ∀ (m : Mp) (w : World) (args' : List Value), LRel m args args' → HRel m H w → MLow m H.n → GOK P gl m →
    ((callFunc f args'.toArray).run P w = .ok (.enter f args'.toArray) w ∧
    Calls P f args'.toArray w fun e w' => ∃ m' v', e = .returned v' ∧ VRel m' v v' ∧ Step m H w m' H' w') ∨
    ∃ m' v' w', (callFunc f args'.toArray).run P w = .ok (.value v') w' ∧ VRel m' v v' ∧ Step m H w m' H' w'

def ERel (m : Mp) (env : Env) (a : Act) : Prop := ∀ t, VRel m (env t) (a.tmps.getD t undef)

theorem ev_sound {P : Program} {gl : Bool} {m : Mp} {env : Env} {a : Act} (hE : ERel m env a) (hg : GOK P gl m) {x : Operand} (h : okOpd P gl x = true) : VRel m (ev env x) (a.eval x) := by
  cases x with
  | tmp t => exact hE t
  | const v => exact VRel.ofFlat (v := v) (by simpa [okOpd] using h)
  | global g =>
    simp only [okOpd, Bool.and_eq_true, decide_eq_true_eq] at h
    exact VRel.ptr (hg h.1 g h.2)
  | func f => exact .func rfl rfl (by simp) (by simp)

theorem evs_sound {P : Program} {gl : Bool} {m : Mp} {env : Env} {a : Act} (hE : ERel m env a) (hg : GOK P gl m) {xs : List Operand} (h : xs.all (okOpd P gl) = true) : LRel m (xs.map (ev env)) (xs.map a.eval) := by
  induction xs with
  | nil => exact LRel.nil
  | cons x xs ih =>
    simp only [List.all_cons, Bool.and_eq_true] at h
    exact LRel.cons (ev_sound hE hg h.1) (ih h.2)
theorem evs' {m : Mp} {env : Env} {a : Act} {xs : List Operand} (h : ∀ x ∈ xs, VRel m (ev env x) (a.eval x)) : LRel m (xs.map (ev env)) (xs.map a.eval) := by
  induction xs with
  | nil => exact LRel.nil
  | cons x xs ih => exact LRel.cons (h x (by simp)) (ih fun y hy => h y (by simp [hy]))
theorem evo' {m : Mp} {env : Env} {a : Act} {x : Option Operand} (h : ∀ y ∈ x.toArray, VRel m (ev env y) (a.eval y)) : ORel m (x.map (ev env)) (x.map a.eval) := by
  cases x with
  | none => trivial
  | some x => exact h x (by simp)
section
variable {P : Program} {m : Mp} {H H' : Heap} {w : World} {a : Act} {o : Oper} {v : Value} {Q : Exit → Act → World → Prop}
theorem wp_value {m' : Mp} {v' : Value} {w' : World} (h : (execOp a.eval o).run P w = .ok (.value v') w') (hv : VRel m' v v') (hs : Step m H w m' H' w') :
    o.wp P a w (fun a' w' => ∃ m' v', a' = a.put o.dst v' ∧ VRel m' v v' ∧ Step m H w m' H' w') Q := by
  unfold Oper.wp
  rw [h]
  exact ⟨m', v', rfl, hv, hs⟩
theorem wp_skip' {m' : Mp} {w' : World} (h : (execOp a.eval o).run P w = .ok .skip w') (hv : v = undef) (hs : Step m H w m' H' w') :
    o.wp P a w (fun a' w' => ∃ m' v', a' = a.put o.dst v' ∧ VRel m' v v' ∧ Step m H w m' H' w') Q := by
  subst hv
  unfold Oper.wp
  rw [h]
  exact ⟨m', undef, rfl, VRel.undef, hs⟩
theorem wp_sem {m' : Mp} {v' : Value} {w' : World} {s : Sem Value} (he : execOp a.eval o = (do pure (.value (← s)))) (h : s.run P w = .ok v' w') (hv : VRel m' v v') (hs : Step m H w m' H' w') :
    o.wp P a w (fun a' w' => ∃ m' v', a' = a.put o.dst v' ∧ VRel m' v v' ∧ Step m H w m' H' w') Q :=
  wp_value (by rw [he]; simp [h]) hv hs
end

theorem aop_sound' {P : Program} {gl : Bool} {C : CallF} {m : Mp} {H H' : Heap} {w : World} {env : Env} {a : Act} {o : Oper} {v : Value} {Q : Exit → Act → World → Prop} (hC : CSound P gl C) (hg : GOK P gl m) (hE : ∀ x ∈ o.op.operands, VRel m (ev env x) (a.eval x))
    (hr : HRel m H w) (hl : MLow m H.n) (h : aop P C env o.op H = some (v, H')) :
    o.wp P a w (fun a' w' => ∃ m' v', a' = a.put o.dst v' ∧ VRel m' v v' ∧ Step m H w m' H' w') Q := by
  obtain ⟨dst, op, type, pos, after, guard⟩ := o
  simp only at h hE
  have up_inv : ∀ {x : Option Value} {H0 H1 : Heap} {v : Value}, up x H0 = some (v, H1) → x = some v ∧ H1 = H0 := fun {x H0 H1 v} h => by
    unfold up at h
    split at h
    · simp only [Option.some.injEq, Prod.mk.injEq] at h; exact ⟨by rw [h.1], h.2.symm⟩
    · cases h
  cases op <;> simp only [aop] at h
  case move x =>
    simp only [Option.some.injEq, Prod.mk.injEq] at h
    obtain ⟨rfl, rfl⟩ := h
    exact wp_value (v' := a.eval x) (w' := w) (by simp [execOp]) (hE x (by simp [Op.operands])) (Step.refl hr)
  case assign x =>
    simp only [Option.some.injEq, Prod.mk.injEq] at h
    obtain ⟨rfl, rfl⟩ := h
    exact wp_value (v' := a.eval x) (w' := w) (by simp [execOp]) (hE x (by simp [Op.operands])) (Step.refl hr)
  case pick c x y =>
    have hc := hE c (by simp [Op.operands])
    have hx := hE x (by simp [Op.operands])
    have hy := hE y (by simp [Op.operands])
    split at h
    case h_2 => cases h
    rename_i t ht
    simp only [Option.some.injEq, Prod.mk.injEq] at h
    obtain ⟨rfl, rfl⟩ := h
    rw [ht] at hc
    have hc' := hc.bool_inv
    refine wp_value (v' := if t then a.eval x else a.eval y) (w' := w) (by simp [execOp, hc', asBool]) ?_ (Step.refl hr)
    cases t
    · exact hy
    · exact hx
  case alloc e =>
    split at h
    case h_2 => cases h
    rename_i z hz
    obtain ⟨m', v', w', q1, q2, q3⟩ := newV_sound (P := P) (t := e) hr hl (VRel.ofFlat (zeroOf_inv hz).2).cells h
    refine wp_sem (s := Instr.alloc e true (.tuple #[])) (by simp [execOp]) ?_ q2 q3
    simp only [Array.toArray_toList] at q1
    simp [Instr.alloc, run_zero hz, newVar] at q1 ⊢
    exact q1
  case box e x =>
    have hx := hE x (by simp [Op.operands])
    obtain ⟨m', v', w', q1, q2, q3⟩ := newV_sound (P := P) (t := e) hr hl hx.cells h
    refine wp_sem (s := Instr.box e (a.eval x)) (by simp [execOp]) ?_ q2 q3
    simp only [Array.toArray_toList] at q1
    simp [Instr.box, newVar] at q1 ⊢
    exact q1
  case build t ps =>
    split at h
    case h_2 => cases h
    rename_i z pl hz hp
    split at h
    case h_2 => cases h
    rename_i cs hc
    simp only [Option.some.injEq, Prod.mk.injEq] at h
    obtain ⟨rfl, rfl⟩ := h
    have he := evs' (xs := ps.toList.map (·.2)) (fun x hx => hE x (by simpa [Op.operands] using hx))
    obtain ⟨v', q1, q2⟩ := build_sound (P := P) (m := m) (w := w) (t := t) (ps := ps.toList.map fun x => (x.1, ev env x.2)) (ps' := ps.toList.map fun x => (x.1, a.eval x.2)) (by simp [List.map_map]) (by simpa [List.map_map, Function.comp_def] using he) hz (zeroOf_inv hz).2 hp hc
    refine wp_sem (s := Instr.build t (ps.map fun x => (x.1, a.eval x.2))) (by simp [execOp]) ?_ q2 (Step.refl hr)
    have : (ps.toList.map fun x => (x.1, a.eval x.2)).toArray = ps.map fun x => (x.1, a.eval x.2) := by apply Array.ext'; simp
    rw [← this]; exact q1
  case buildSlice t len ps =>
    split at h
    case h_2 => cases h
    rename_i e hu
    split at h
    case h_2 => cases h
    rename_i sz z hs hz
    split at h
    case isFalse => cases h
    rename_i hc
    split at h
    case h_2 => cases h
    rename_i cs hf
    have he := evs' (xs := ps.toList.map (·.2)) (fun x hx => hE x (by simpa [Op.operands] using hx))
    obtain ⟨m', v', w', q1, q2, q3⟩ := buildSlice_sound (P := P) (m := m) (w := w) (t := t) (len := len) (ps := ps.toList.map fun x => (x.1, ev env x.2)) (ps' := ps.toList.map fun x => (x.1, a.eval x.2)) hr hl (by simp [List.map_map]) (by simpa [List.map_map, Function.comp_def] using he)
      hu hs hz (zeroOf_inv hz).2 hc.2.1 hc.2.2 hc.1 (by simpa [List.map_map, Function.comp_def] using hf) h
    refine wp_sem (s := Instr.buildSlice t len (ps.map fun x => (x.1, a.eval x.2))) (by simp [execOp]) ?_ q2 q3
    have : (ps.toList.map fun x => (x.1, a.eval x.2)).toArray = ps.map fun x => (x.1, a.eval x.2) := by apply Array.ext'; simp
    rw [← this]; exact q1
  case load t x =>
    have hx := hE x (by simp [Op.operands])
    split at h
    · rename_i k ha hk
      obtain ⟨rfl, v', q1, q2⟩ := ldA_sound (P := P) hr hx h ha hk
      exact wp_sem (s := Instr.loadAt t (a.eval x)) (by simp [execOp]) q1 q2 (Step.refl hr)
    · rename_i ha
      obtain ⟨rfl, v', q1, q2⟩ := ldC_sound (P := P) hr hx h ha
      exact wp_sem (s := Instr.loadAt t (a.eval x)) (by simp [execOp]) q1 q2 (Step.refl hr)
    · cases h
  case store t x y =>
    have hx := hE x (by simp [Op.operands])
    have hy := hE y (by simp [Op.operands])
    split at h
    case h_2 => cases h
    rename_i k hk
    obtain ⟨rfl, w', q1, q2⟩ := stV_sound (P := P) hr hx hy hk h
    exact wp_skip' (by simp [execOp, q1]) rfl q2
  case nilCheck x =>
    have hx := hE x (by simp [Op.operands])
    split at h
    · rename_i p hp
      simp only [Option.some.injEq, Prod.mk.injEq] at h
      obtain ⟨rfl, rfl⟩ := h
      rw [hp] at hx
      have : ∃ a', a.eval x = .pointer (some a') := by
        generalize a.eval x = y at hx
        cases hx with
        | flat hf => simp [flat1] at hf
        | ptr => exact ⟨_, rfl⟩
      obtain ⟨a', ha'⟩ := this
      rw [ha'] at hx
      exact wp_value (v' := .pointer (some a')) (w' := w) (by simp [execOp, ha']) hx (Step.refl hr)
    · rename_i f c d hp
      simp only [Option.some.injEq, Prod.mk.injEq] at h
      obtain ⟨rfl, rfl⟩ := h
      rw [hp] at hx
      have : ∃ c' d', a.eval x = .func (.func f) c' d' := by
        generalize a.eval x = y at hx
        cases hx with
        | flat hf => simp [flat1] at hf
        | func => exact ⟨_, _, rfl⟩
      obtain ⟨c', d', ha'⟩ := this
      rw [ha'] at hx
      exact wp_value (v' := .func (.func f) c' d') (w' := w) (by simp [execOp, ha']) hx (Step.refl hr)
    · cases h
  case binOp op t x y yt =>
    obtain ⟨h2, rfl⟩ := up_inv h
    obtain ⟨q1, q2⟩ := binB_sound (w := w) (xo := x) (yo := y) (hE x (by simp [Op.operands])) (hE y (by simp [Op.operands])) h2
    exact wp_sem (s := do eqGuard op t x y (a.eval x) (a.eval y); binOp op t (a.eval x) (a.eval y)) (by simp [execOp]) q1 q2 (Step.refl hr)
  case unOp op t x =>
    have hx := hE x (by simp [Op.operands])
    obtain ⟨h2, rfl⟩ := up_inv h
    obtain ⟨q1, q2⟩ := unB_sound (P := P) (w := w) hx h2
    exact wp_sem (s := Op.unary op (a.eval x)) (by simp [execOp]) q1 q2 (Step.refl hr)
  case convert s d x =>
    have hx := hE x (by simp [Op.operands])
    unfold cnvOf at h
    split at h
    · rename_i k0 k hs hd
      simp only [cnv] at h
      split at h
      case h_2 => cases h
      rename_i k1 n hn
      simp only [Option.some.injEq, Prod.mk.injEq] at h
      obtain ⟨rfl, rfl⟩ := h
      rw [hn] at hx
      have := hx.int_inv
      exact wp_sem (v' := .int k (k.wrap n)) (s := convert s d (a.eval x)) (by simp [execOp]) (by simp [convert, run_underlying hs, run_underlying hd, this, Conv.intToInt]) (.flat rfl) (Step.refl hr)
    · rename_i hs hd
      simp only [cnv] at h
      split at h
      case h_2 => cases h
      rename_i n hn
      simp only [Option.some.injEq, Prod.mk.injEq] at h
      obtain ⟨rfl, rfl⟩ := h
      rw [hn] at hx
      have := hx.string_inv
      exact wp_sem (v' := .string n) (s := convert s d (a.eval x)) (by simp [execOp]) (by simp [convert, run_underlying hs, run_underlying hd, this]) (.flat rfl) (Step.refl hr)
    · rename_i k0 hs hd
      simp only [cnv] at h
      split at h
      case h_2 => cases h
      rename_i k1 n hn
      simp only [Option.some.injEq, Prod.mk.injEq] at h
      obtain ⟨rfl, rfl⟩ := h
      rw [hn] at hx
      have := hx.int_inv
      exact wp_sem (v' := .string (Utf8.encode n)) (s := convert s d (a.eval x)) (by simp [execOp]) (by simp [convert, run_underlying hs, run_underlying hd, this, Conv.intToString]) (.flat rfl) (Step.refl hr)
    · rename_i e hs hd
      split at h
      · rename_i he
        obtain ⟨rfl, q1, q2⟩ := toStr_sound (P := P) (src := s) (dst := d) hr hx (by simpa [cnv] using h) hs he hd
        exact wp_sem (s := convert s d (a.eval x)) (by simp [execOp]) q1 q2 (Step.refl hr)
      · simp [cnv] at h
    · rename_i e hs hd
      split at h
      · rename_i he
        obtain ⟨m', v', w', q1, q2, q3⟩ := ofStr_sound (P := P) (src := s) (dst := d) hr hl hx (by simpa [cnv] using h) hs he hd
        exact wp_sem (s := convert s d (a.eval x)) (by simp [execOp]) q1 q2 q3
      · simp [cnv] at h
    · rename_i e e2 hs hd
      split at h
      · rename_i hsd
        split at h
        · rename_i he
          subst hsd
          obtain ⟨v', w', q1, q2, q3⟩ := mark_sound (P := P) (t := s) hr hx (by simpa [cnv] using h) hs he
          exact wp_sem (s := convert s s (a.eval x)) (by simp [execOp]) q1 q2 q3
        · simp [cnv] at h
      · simp [cnv] at h
    · simp [cnv] at h
  case makeFunc fn first captured =>
    cases fn <;> simp only [aop] at h <;> first | (cases h; done) | skip
    rename_i f
    simp only [Option.some.injEq, Prod.mk.injEq] at h
    obtain ⟨rfl, rfl⟩ := h
    have h1 := evs' (xs := first.toList) (fun x hx => hE x (by simp [Op.operands]; exact .inl (by simpa using hx)))
    have h2 := evs' (xs := captured.toList) (fun x hx => hE x (by simp [Op.operands]; exact .inr (by simpa using hx)))
    refine wp_value (v' := .func (.func f) (first.map a.eval) (captured.map a.eval)) (w' := w) (by simp [execOp, Instr.makeFunc]) ?_ (Step.refl hr)
    have g1 : LRel m (first.map (ev env)).toList (first.map a.eval).toList := by simpa using h1
    have g2 : LRel m (captured.map (ev env)).toList (captured.map a.eval).toList := by simpa using h2
    exact .func g1.1 g2.1 g1.2 g2.2
  case makeSlice t l c =>
    have hl1 := hE l (by simp [Op.operands])
    have hc1 := hE c (by simp [Op.operands])
    split at h
    case h_2 => cases h
    rename_i e n c' hu hn hm
    split at h
    case h_2 => cases h
    rename_i z sz by_ hz hs hb
    split at h
    case isFalse => cases h
    rename_i hc
    obtain ⟨c1, c2, c3, c4, c5, c6⟩ := hc
    rw [hn] at hl1
    rw [hm] at hc1
    obtain ⟨m', v', w', q1, q2, q3⟩ := makeSlice_sound (P := P) hr hl hu hs hz hb (zeroOf_inv hz).2 c4 c1 c2 c3 c5 c6 h
    exact wp_sem (s := Instr.makeSlice t (a.eval l) (a.eval c)) (by simp [execOp]) (by rw [hl1.int_inv, hc1.int_inv]; exact q1) q2 q3
  case slice t x lo hi mx =>
    have hx := hE x (by simp [Op.operands])
    have r1 := evo' (m := m) (env := env) (a := a) (x := lo) (fun y hy => hE y (by simp [Op.operands] at hy ⊢; simp [hy]))
    have r2 := evo' (m := m) (env := env) (a := a) (x := hi) (fun y hy => hE y (by simp [Op.operands] at hy ⊢; simp [hy]))
    have r3 := evo' (m := m) (env := env) (a := a) (x := mx) (fun y hy => hE y (by simp [Op.operands] at hy ⊢; simp [hy]))
    have hex : execOp a.eval ⟨dst, .slice t x lo hi mx, type, pos, after, guard⟩ = (do pure (.value (← Instr.sliceAt t (a.eval x) (lo.map a.eval) (hi.map a.eval) (mx.map a.eval)))) := by simp [execOp]
    split at h
    · rename_i hu
      split at h
      case isFalse => cases h
      rename_i hmx
      obtain ⟨h2, rfl⟩ := up_inv h
      obtain ⟨q1, q2⟩ := slcStr_sound (P := P) (w := w) hx r1 r2 hu h2
      have : mx = none := by simpa using hmx
      subst this
      exact wp_sem hex q1 q2 (Step.refl hr)
    · rename_i e hu
      split at h
      case h_2 => cases h
      rename_i sz hs
      obtain ⟨h2, rfl⟩ := up_inv h
      obtain ⟨v', q1, q2⟩ := slcS_sound (P := P) (w := w) hx r1 r2 r3 hu hs h2
      exact wp_sem hex q1 q2 (Step.refl hr)
    · rename_i n e hu
      split at h
      case h_2 => cases h
      rename_i sz hs
      obtain ⟨h2, rfl⟩ := up_inv h
      obtain ⟨v', q1, q2⟩ := slcA_sound (P := P) (w := w) hx r1 r2 r3 hu hs h2
      exact wp_sem hex q1 q2 (Step.refl hr)
    · cases h
  case fieldAddr s x f =>
    have hx := hE x (by simp [Op.operands])
    split at h
    case h_2 => cases h
    rename_i fs hu
    split at h
    case h_2 => cases h
    rename_i fl hf
    split at h
    case h_2 => cases h
    rename_i k hk
    obtain ⟨h2, rfl⟩ := up_inv h
    obtain ⟨v', q1, q2⟩ := fAddr_sound (P := P) (w := w) hx hu hf hk h2
    exact wp_sem (s := Instr.fieldAt s (a.eval x) f) (by simp [execOp]) q1 q2 (Step.refl hr)
  case field s x f =>
    have hx := hE x (by simp [Op.operands])
    split at h
    case h_2 => cases h
    rename_i fs hu
    split at h
    case h_2 => cases h
    rename_i fl hf
    split at h
    case h_2 => cases h
    rename_i ag k ha hk
    obtain ⟨h2, rfl⟩ := up_inv h
    generalize hy : ev env x = y at *
    cases y <;> first | (simp [partV] at h2; done) | skip
    rename_i cs
    obtain ⟨cs', hcs, hlr⟩ := hx.agg_inv
    obtain ⟨v', q1, q2⟩ := partV_sound (P := P) (w := w) hlr ha hk h2
    exact wp_sem (s := Instr.field s (a.eval x) f) (by simp [execOp]) (by rw [hcs]; simp [Instr.field, run_underlying hu, hf, asAgg, q1]) q2 (Step.refl hr)
  case indexAddr t x i =>
    have hx := hE x (by simp [Op.operands])
    have hi := hE i (by simp [Op.operands])
    split at h
    · rename_i len e hu
      split at h
      case h_2 => cases h
      rename_i sz hs
      obtain ⟨h2, rfl⟩ := up_inv h
      obtain ⟨v', q1, q2⟩ := iAddrA_sound (P := P) (w := w) hx hi hu hs h2
      exact wp_sem (s := Instr.indexAt t (a.eval x) (a.eval i)) (by simp [execOp]) q1 q2 (Step.refl hr)
    · rename_i e hu
      split at h
      case h_2 => cases h
      rename_i sz hs
      obtain ⟨h2, rfl⟩ := up_inv h
      obtain ⟨v', q1, q2⟩ := iAddrS_sound (P := P) (w := w) hx hi hu hs h2
      exact wp_sem (s := Instr.indexAt t (a.eval x) (a.eval i)) (by simp [execOp]) q1 q2 (Step.refl hr)
    · cases h
  case index t x i =>
    have hx := hE x (by simp [Op.operands])
    have hi := hE i (by simp [Op.operands])
    split at h
    · rename_i len e hu
      split at h
      case h_2 => cases h
      rename_i ag sz ha hs
      obtain ⟨h2, rfl⟩ := up_inv h
      obtain ⟨v', q1, q2⟩ := idxA_sound (P := P) (w := w) hx hi hu ha hs h2
      exact wp_sem (s := Instr.index t (a.eval x) (a.eval i)) (by simp [execOp]) q1 q2 (Step.refl hr)
    · rename_i hu
      obtain ⟨h2, rfl⟩ := up_inv h
      obtain ⟨q1, q2⟩ := idxS_sound (P := P) (w := w) hx hi hu h2
      exact wp_sem (s := Instr.index t (a.eval x) (a.eval i)) (by simp [execOp]) q1 q2 (Step.refl hr)
    · cases h
  case extract t ix =>
    have hx := hE t (by simp [Op.operands])
    split at h
    case h_2 => cases h
    rename_i vs hvs
    obtain ⟨h2, rfl⟩ := up_inv h
    rw [hvs] at hx
    obtain ⟨cs', hcs, hlr⟩ := hx.tuple_inv
    obtain ⟨v', g1, g2⟩ := hlr.get h2
    rw [Array.getElem?_toList] at g1
    exact wp_sem (s := Instr.extract (a.eval t) ix) (by simp [execOp]) (by rw [hcs]; simp [Instr.extract, g1]) g2 (Step.refl hr)
  case range t x =>
    have hx := hE x (by simp [Op.operands])
    split at h
    case h_2 => cases h
    rename_i hu
    obtain ⟨m', v', w', q1, q2, q3⟩ := rngS_sound hr hl hx hu h
    exact wp_sem (s := Instr.range t (a.eval x)) (by simp [execOp]) q1 q2 q3
  case next x b =>
    have hx := hE x (by simp [Op.operands])
    cases b with
    | false => simp [aop] at h
    | true =>
      simp only [aop] at h
      obtain ⟨w', q1, q2, q3⟩ := nxtS_sound (t := type) hr hx h
      exact wp_sem (s := Instr.next (a.eval x) true type) (by simp [execOp]) q1 q2 q3
  case makeMap t r =>
    have key : ∀ {kt et : TypeId}, P.underlying t = some (.map kt et) → (∀ y, r.map a.eval = some y → ∃ ik n, y = .int ik n) → mkM H = some (v, H') → Oper.wp P ⟨dst, .makeMap t r, type, pos, after, guard⟩ a w (fun a' w' => ∃ m' v', a' = a.put dst v' ∧ VRel m' v v' ∧ Step m H w m' H' w') Q := fun hu hrr h => by
      obtain ⟨m', v', w', q1, q2, q3⟩ := mkM_sound (r := none) hr hl hu hrr h
      exact wp_sem (s := Instr.makeMap t (r.map a.eval)) (by simp [execOp]) q1 q2 q3
    split at h
    · rename_i hu hrn
      exact key hu (fun y hy => by cases r <;> simp at hrn hy) h
    · rename_i kt et ik n hu hrn
      refine key hu (fun y hy => ?_) h
      cases r with
      | none => simp at hy
      | some r =>
        have hx := hE r (by simp [Op.operands])
        simp only [Option.map_some, Option.some.injEq] at hrn hy
        rw [hrn] at hx
        exact ⟨ik, n, by rw [← hy]; exact hx.int_inv⟩
    · cases h
  case lookup t x k ok =>
    have hx := hE x (by simp [Op.operands])
    have hk := hE k (by simp [Op.operands])
    split at h
    case h_2 => cases h
    rename_i kt et hu
    split at h
    case h_2 => cases h
    rename_i d z hd hz
    split at h
    case isFalse => cases h
    rename_i hkb
    have hke := hk.eq_of_flat1 (keyB_flat hkb)
    obtain ⟨rfl, v', q1, q2⟩ := lkM_sound hr hx hkb hu hd hz h
    exact wp_sem (s := Instr.lookup t (a.eval x) (a.eval k) ok) (by simp [execOp]) (by rw [hke]; exact q1) q2 (Step.refl hr)
  case mapUpdate t x k y =>
    have hx := hE x (by simp [Op.operands])
    have hk := hE k (by simp [Op.operands])
    have hy := hE y (by simp [Op.operands])
    split at h
    case h_2 => cases h
    rename_i kt et hu
    split at h
    case h_2 => cases h
    rename_i d hd
    split at h
    case isFalse => cases h
    rename_i hkb
    have hke := hk.eq_of_flat1 (keyB_flat hkb)
    obtain ⟨q0, w', q1, q2⟩ := upM_sound hr hx hkb hy hu hd h
    exact wp_skip' (w' := w') (by simp [execOp, hke, q1]) q0 q2
  case insert t x k y =>
    have hx := hE x (by simp [Op.operands])
    have hk := hE k (by simp [Op.operands])
    have hy := hE y (by simp [Op.operands])
    split at h
    case h_2 => cases h
    rename_i kt et hu
    split at h
    case h_2 => cases h
    rename_i d hd
    split at h
    case isFalse => cases h
    rename_i hkb
    have hke := hk.eq_of_flat1 (keyB_flat hkb)
    obtain ⟨q0, w', q1, q2⟩ := upM_sound hr hx hkb hy hu hd h
    exact wp_skip' (w' := w') (by simp [execOp, hke, q1]) q0 q2
  case call c =>
    obtain ⟨callee, args, argTypes⟩ := c
    cases callee with
    | invoke r n => simp at h
    | value f =>
      simp only at h
      have hf := hE f (by simp [Op.operands, Call.operands])
      have ha := evs' (xs := args.toList) (fun x hx => hE x (by simp [Op.operands, Call.operands]; exact .inr (by simpa using hx)))
      split at h
      case h_2 => cases h
      rename_i g first captured hgv
      rw [hgv] at hf
      have : ∃ c' d', a.eval f = .func (.func g) c' d' ∧ LRel m first.toList c'.toList ∧ LRel m captured.toList d'.toList := by
        generalize a.eval f = y at hf
        cases hf with
        | flat hf => simp [flat1] at hf
        | func h1 h2 h3 h4 => exact ⟨_, _, rfl, ⟨h1, h3⟩, ⟨h2, h4⟩⟩
      obtain ⟨c', d', hy, hl1, hl2⟩ := this
      have harr : (c'.toList ++ args.toList.map a.eval ++ d'.toList).toArray = c' ++ args.map a.eval ++ d' := by apply Array.ext'; simp
      rcases hC g _ H v H' h m w _ ((hl1.append ha).append hl2) hr hl hg with ⟨g1, g2⟩ | ⟨m', v', w', g1, g2, g3⟩
      case inr =>
        rw [harr] at g1
        exact wp_value (v' := v') (w' := w') (by
          simp [execOp, resolve, hy, Deferred.ofValue, invoke] at g1 ⊢
          exact g1) g2 g3
      rw [harr] at g1 g2
      unfold Oper.wp
      have : (execOp a.eval ⟨dst, .call ⟨.value f, args, argTypes⟩, type, pos, after, guard⟩).run P w = .ok (.enter g (c' ++ args.map a.eval ++ d')) w := by
        simp [execOp, resolve, hy, Deferred.ofValue, invoke] at g1 ⊢
        exact g1
      rw [this]
      exact g2.mono fun e w' ⟨m', v', he, hv, hs⟩ => by subst he; exact ⟨m', v', rfl, hv, hs⟩
    | builtin b =>
      simp only at h
      have ha := evs' (xs := args.toList) (fun x hx => hE x (by simp [Op.operands, Call.operands]; simpa using hx))
      unfold builtinB at h
      have hex : ∀ (s : Array Value → Sem Value), builtin b argTypes type (args.map fun | .const _ => true | _ => false) (args.map a.eval) = (do pure (.value (← s (args.map a.eval)))) →
          execOp a.eval ⟨dst, .call ⟨.builtin b, args, argTypes⟩, type, pos, after, guard⟩ = (do pure (.value (← s (args.map a.eval)))) := fun s hs => by
        simp only [execOp, resolve, pure_bind, invoke]
        exact hs
      have hargs : ∀ l', (args.toList.map a.eval) = l' → args.map a.eval = l'.toArray := fun l' hl' => by apply Array.ext'; simpa using hl'
      split at h
      · rename_i x hx
        rw [hx] at ha
        obtain ⟨x', r', hl', hx', hr'⟩ := ha.cases_cons
        obtain rfl := hr'.cases_nil
        split at h
        case h_2 => cases h
        rename_i t ht
        split at h
        · rename_i hmt
          obtain ⟨kt, et, hu⟩ : ∃ kt et, P.underlying t = some (.map kt et) := by
            unfold isMapT at hmt
            split at hmt
            · rename_i kt et hu; exact ⟨kt, et, hu⟩
            · cases hmt
          obtain ⟨rfl, q1, q2⟩ := lenM_sound (P := P) (ty := type) hr hx' ht hu h
          exact wp_sem (hex (fun l => Builtin.len_ argTypes type l) (by rfl)) (by rw [hargs _ hl']; exact q1) q2 (Step.refl hr)
        · obtain ⟨h2, rfl⟩ := up_inv h
          obtain ⟨q1, q2⟩ := lenB_sound (P := P) (w := w) (ty := type) hx' ht h2
          exact wp_sem (hex (fun l => Builtin.len_ argTypes type l) (by rfl)) (by rw [hargs _ hl']; exact q1) q2 (Step.refl hr)
      · rename_i x hx
        rw [hx] at ha
        obtain ⟨x', r', hl', hx', hr'⟩ := ha.cases_cons
        obtain rfl := hr'.cases_nil
        split at h
        case h_2 => cases h
        rename_i t ht
        obtain ⟨h2, rfl⟩ := up_inv h
        obtain ⟨q1, q2⟩ := capB_sound (P := P) (w := w) (ty := type) hx' ht h2
        exact wp_sem (hex (fun l => Builtin.cap_ argTypes type l) (by rfl)) (by rw [hargs _ hl']; exact q1) q2 (Step.refl hr)
      · rename_i s x hx
        rw [hx] at ha
        obtain ⟨s', r', hl', hs', hr'⟩ := ha.cases_cons
        obtain ⟨x', r2, rfl, hx', hr2⟩ := hr'.cases_cons
        obtain rfl := hr2.cases_nil
        split at h
        case h_2 => cases h
        rename_i t ht
        split at h
        case h_2 => cases h
        rename_i e hu
        split at h
        case h_2 => cases h
        rename_i sz by_ z hsz hby hz
        split at h
        case isFalse => cases h
        rename_i hc
        obtain ⟨c1, c2, c3⟩ := hc
        split at h
        · rename_i e2 hu2
          simp only [Option.bind_eq_some_iff] at hu2
          obtain ⟨t2, ht2, hu2⟩ := hu2
          obtain ⟨m', v', w', q1, q2, q3⟩ := app_sound (P := P) (ty := type) hr hl hs' hx' h ht hu hsz hby hz c3 c2 c1 ht2 hu2 (by simp)
          exact wp_sem (hex (fun l => Builtin.append_ argTypes type l) (by rfl)) (by rw [hargs _ hl']; exact q1) q2 q3
        · rename_i hu2
          simp only [Option.bind_eq_some_iff] at hu2
          obtain ⟨t2, ht2, hu2⟩ := hu2
          obtain ⟨m', v', w', q1, q2, q3⟩ := app_sound (P := P) (ty := type) hr hl hs' hx' h ht hu hsz hby hz c3 c2 c1 ht2 hu2 (by simp)
          exact wp_sem (hex (fun l => Builtin.append_ argTypes type l) (by rfl)) (by rw [hargs _ hl']; exact q1) q2 q3
        · rename_i q hu2
          simp only [Option.bind_eq_some_iff] at hu2
          obtain ⟨t2, ht2, hu2⟩ := hu2
          obtain ⟨m', v', w', q1, q2, q3⟩ := appZ_sound (P := P) (ty := type) hr hl hs' hx' h ht hu hsz hby hz c3 c2 c1 ht2 hu2
          exact wp_sem (hex (fun l => Builtin.append_ argTypes type l) (by rfl)) (by rw [hargs _ hl']; exact q1) q2 q3
        · cases h
      · rename_i d x hx
        rw [hx] at ha
        obtain ⟨d', r', hl', hd', hr'⟩ := ha.cases_cons
        obtain ⟨x', r2, rfl, hx', hr2⟩ := hr'.cases_cons
        obtain rfl := hr2.cases_nil
        split at h
        case h_2 => cases h
        rename_i t ht
        split at h
        case h_2 => cases h
        rename_i e hu
        split at h
        case h_2 => cases h
        rename_i sz hsz
        obtain ⟨w', q1, q2, q3⟩ := cpy_sound (P := P) (ty := type) hr hd' hx' h ht hu hsz
        exact wp_sem (hex (fun l => Builtin.copy_ argTypes type l) (by rfl)) (by rw [hargs _ hl']; exact q1) q2 q3
      · rename_i k x k' y hx
        rw [hx] at ha
        obtain ⟨d', r', hl', hd', hr'⟩ := ha.cases_cons
        obtain ⟨x', r2, rfl, hx', hr2⟩ := hr'.cases_cons
        obtain rfl := hr2.cases_nil
        split at h
        case isFalse => cases h
        rename_i hk
        subst hk
        simp only [Option.some.injEq, Prod.mk.injEq] at h
        obtain ⟨rfl, rfl⟩ := h
        rw [hd'.int_inv, hx'.int_inv] at hl'
        exact wp_sem (hex (fun l => Builtin.min_ argTypes type l) (by rfl)) (by rw [hargs _ hl']; simp [Builtin.min_, Builtin.min2]) (.flat rfl) (Step.refl hr)
      · rename_i k x k' y hx
        rw [hx] at ha
        obtain ⟨d', r', hl', hd', hr'⟩ := ha.cases_cons
        obtain ⟨x', r2, rfl, hx', hr2⟩ := hr'.cases_cons
        obtain rfl := hr2.cases_nil
        split at h
        case isFalse => cases h
        rename_i hk
        subst hk
        simp only [Option.some.injEq, Prod.mk.injEq] at h
        obtain ⟨rfl, rfl⟩ := h
        rw [hd'.int_inv, hx'.int_inv] at hl'
        exact wp_sem (hex (fun l => Builtin.max_ argTypes type l) (by rfl)) (by rw [hargs _ hl']; simp [Builtin.max_, Builtin.max2]) (.flat rfl) (Step.refl hr)
      · cases h
  all_goals cases h

theorem aop_sound {P : Program} {gl : Bool} {C : CallF} {m : Mp} {H H' : Heap} {w : World} {env : Env} {a : Act} {o : Oper} {v : Value} {Q : Exit → Act → World → Prop} (hC : CSound P gl C) (hg : GOK P gl m) (hE : ERel m env a)
    (hr : HRel m H w) (hl : MLow m H.n) (hok : o.op.operands.toList.all (okOpd P gl) = true) (h : aop P C env o.op H = some (v, H')) :
    o.wp P a w (fun a' w' => ∃ m' v', a' = a.put o.dst v' ∧ VRel m' v v' ∧ Step m H w m' H' w') Q :=
  aop_sound' hC hg (fun x hx => ev_sound hE hg (by rw [List.all_eq_true] at hok; exact hok x (by simpa using hx))) hr hl h

end Go.Eng

set_option linter.unusedVariables false
namespace Go.Eng
open Go

theorem eqVal_eq {a b : Value} (h : eqVal a b = true) : a = b := by
  unfold eqVal at h
  split at h <;> first
    | (simp only [beq_iff_eq] at h; rw [h]; done)
    | (simp only [Bool.and_eq_true, beq_iff_eq] at h; obtain ⟨h1, h2⟩ := h; rw [h1, h2]; done)
    | (simp only [Bool.and_eq_true, beq_iff_eq] at h; obtain ⟨⟨h1, h2⟩, h3⟩ := h; rw [h1, h2, h3]; done)
    | rfl
    | (simp only [beq_iff_eq] at h
       rename_i x y
       obtain ⟨⟨x⟩⟩ := x
       obtain ⟨⟨y⟩⟩ := y
       simp only at h
       rw [h]; done)
    | (cases h; done)
theorem eqCells_eq : ∀ {l m : List Value}, eqCells l m = true → l = m
  | [], [], _ => rfl
  | a :: l, b :: m, h => by
    simp only [eqCells, Bool.and_eq_true] at h
    rw [eqVal_eq h.1, eqCells_eq h.2]
  | [], b :: m, h => by cases h
  | a :: l, [], h => by cases h
theorem eqBlk_eq {x y : Blk} (h : eqBlk x y = true) : x = y := by
  simp only [eqBlk, Bool.and_eq_true, beq_iff_eq] at h
  obtain ⟨⟨⟨⟨h1, h2⟩, h3⟩, h4⟩, h5⟩ := h
  obtain @⟨x1, x2, x3, ⟨x4⟩⟩ := x
  obtain @⟨y1, y2, y3, ⟨y4⟩⟩ := y
  simp only [Blk.plain, Option.isNone_iff_eq_none] at h1 h2 h3 h4 h5
  have h1 := eqCells_eq h1
  subst h1; subst h2; subst h3; subst h4; subst h5
  rfl
theorem sameBlk_eq {H H' : Heap} {b : Nat} (h : sameBlk H H' (some b) = true) (hb : b < H.n) : H'.get b = H.get b := by
  simp only [sameBlk, if_pos hb, Bool.or_eq_true] at h
  rcases h with h | h
  · split at h
    · rename_i x y hx hy
      rw [hx, hy, eqBlk_eq h]
    · cases h
  · simpa [same] using h
theorem sameBlk_of {H H' : Heap} {b : Option Nat} (h : ∀ c, b = some c → H'.get c = H.get c) : sameBlk H H' b = true := by
  cases b with
  | none => rfl
  | some b =>
    simp only [sameBlk]
    split
    · rw [Bool.or_eq_true]; right
      simp [same, h b rfl]
    · rfl

def befOf (acc : List Nat) (o : Oper) : Nat := o.after.toList.foldl (fun s e => if Region.binds .any e then s ||| 2 ^ e.on ||| acc.getD e.on 0 else s) 0
theorem befs_cons (o : Oper) (rest : List Oper) (acc : List Nat) : befs (o :: rest) acc = befs rest (acc ++ [befOf acc o]) := rfl
theorem befs_pre : ∀ (l : List Oper) (acc : List Nat) (k : Nat), k < acc.length → (befs l acc)[k]? = acc[k]?
  | [], acc, k, _ => rfl
  | o :: l, acc, k, h => by
    rw [befs_cons, befs_pre l _ k (by simp; omega), List.getElem?_append_left h]
theorem befs_at : ∀ (l : List Oper) (acc : List Nat) (i : Nat) (o : Oper), l[i]? = some o → ∃ pre : List Nat, pre.length = acc.length + i ∧ (∀ k, k < pre.length → (befs l acc)[k]? = pre[k]?) ∧ (befs l acc)[acc.length + i]? = some (befOf pre o)
  | [], acc, i, o, h => by simp at h
  | q :: l, acc, 0, o, h => by
    simp at h
    subst h
    refine ⟨acc, rfl, fun k hk => befs_pre _ _ k hk, ?_⟩
    rw [befs_cons, befs_pre _ _ _ (by simp)]
    simp
  | q :: l, acc, i + 1, o, h => by
    obtain ⟨pre, h1, h2, h3⟩ := befs_at l (acc ++ [befOf acc q]) i o (by simpa using h)
    refine ⟨pre, by simp at h1; omega, fun k hk => by rw [befs_cons]; exact h2 k hk, ?_⟩
    rw [befs_cons]
    simp only [List.length_append, List.length_singleton] at h3
    rw [show acc.length + (i + 1) = acc.length + 1 + i by omega]
    exact h3
theorem foldl_bit (acc : List Nat) (i : Nat) : ∀ (es : List Edge) (s : Nat), (es.foldl (fun s e => if Region.binds .any e then s ||| 2 ^ e.on ||| acc.getD e.on 0 else s) s).testBit i = true →
    s.testBit i = true ∨ ∃ e ∈ es, Region.binds .any e = true ∧ (e.on = i ∨ (acc.getD e.on 0).testBit i = true)
  | [], s, h => .inl h
  | e :: es, s, h => by
    simp only [List.foldl_cons] at h
    rcases foldl_bit acc i es _ h with h1 | ⟨e', he, h1⟩
    · split at h1
      · rename_i hb
        simp only [Nat.testBit_or, Bool.or_eq_true, Nat.testBit_two_pow, decide_eq_true_eq] at h1
        rcases h1 with (h1 | h1) | h1
        · exact .inl h1
        · exact .inr ⟨e, by simp, hb, .inl h1⟩
        · exact .inr ⟨e, by simp, hb, .inr h1⟩
      · exact .inl h1
    · exact .inr ⟨e', by simp [he], h1⟩
theorem bef_edge {all : List Oper} {i j : Nat} {o : Oper} (hj : all[j]? = some o) (hdown : ∀ e ∈ o.after, Region.binds .any e = true → e.on < j) (h : ((befs all []).getD j 0).testBit i = true) :
    ∃ e ∈ o.after, Region.binds .any e = true ∧ (e.on = i ∨ ((befs all []).getD e.on 0).testBit i = true) := by
  obtain ⟨pre, h1, h2, h3⟩ := befs_at all [] j o hj
  simp only [List.length_nil, Nat.zero_add] at h1 h3
  rw [List.getD_eq_getElem?_getD, h3, Option.getD_some] at h
  rcases foldl_bit pre i o.after.toList 0 h with h4 | ⟨e, he, hb, h4⟩
  · simp at h4
  · refine ⟨e, by simpa using he, hb, ?_⟩
    have hlt := hdown e (by simpa using he) hb
    rcases h4 with h4 | h4
    · exact .inl h4
    · right
      rw [List.getD_eq_getElem?_getD, h2 e.on (by omega), ← List.getD_eq_getElem?_getD]
      exact h4
theorem bef_lt {all : List Oper} (hdown : ∀ j o, all[j]? = some o → ∀ e ∈ o.after, Region.binds .any e = true → e.on < j) : ∀ (j i : Nat) {o : Oper}, all[j]? = some o → ((befs all []).getD j 0).testBit i = true → i < j := by
  intro j
  induction j using Nat.strongRecOn with
  | _ j ih =>
    intro i o hj h
    obtain ⟨e, he, hb, h1⟩ := bef_edge hj (hdown j o hj) h
    have hlt := hdown j o hj e he hb
    rcases h1 with h1 | h1
    · omega
    · have : e.on < all.length := Nat.lt_trans hlt (List.getElem?_eq_some_iff.1 hj).1
      have := ih e.on hlt i (List.getElem?_eq_getElem this) h1
      omega
theorem bef_done {all : List Oper} (hdown : ∀ j o, all[j]? = some o → ∀ e ∈ o.after, Region.binds .any e = true → e.on < j) {D : Nat → Prop} (hD : ∀ j o, all[j]? = some o → D j → ∀ e ∈ o.after, Region.binds .any e = true → D e.on) :
    ∀ (j i : Nat) {o : Oper}, all[j]? = some o → (∀ e ∈ o.after, Region.binds .any e = true → D e.on) → ((befs all []).getD j 0).testBit i = true → D i := by
  intro j
  induction j using Nat.strongRecOn with
  | _ j ih =>
    intro i o hj hr h
    obtain ⟨e, he, hb, h1⟩ := bef_edge hj (hdown j o hj) h
    rcases h1 with h1 | h1
    · exact h1 ▸ hr e he hb
    · have hlt := hdown j o hj e he hb
      have hlt' : e.on < all.length := Nat.lt_trans hlt (List.getElem?_eq_some_iff.1 hj).1
      have hq := List.getElem?_eq_getElem hlt'
      exact ih e.on hlt i hq (hD e.on _ hq (hr e he hb)) h1

end Go.Eng

set_option linter.unusedVariables false
namespace Go.Eng
open Go

theorem ERel.mono {m m' : Mp} (hm : MLe m m') {env : Env} {a : Act} (h : ERel m env a) : ERel m' env a := fun t => (h t).mono hm
theorem ERel.put {m : Mp} {env : Env} {a : Act} (h : ERel m env a) {d : Option Tmp} {v v' : Value} (hv : VRel m v v') {N : Nat} (hN : a.tmps.size = N) : ERel m (putE N env d v) (a.put d v') := by
  intro t
  unfold putE Act.put
  cases d with
  | none => exact h t
  | some d =>
    simp only
    split
    · rename_i hd
      by_cases ht : t = d
      · subst ht
        simp only [if_true]
        simpa [Array.getD_eq_getD_getElem?, hN, hd] using hv
      · simp only [if_neg ht]
        have := h t
        simpa [Array.getD_eq_getD_getElem?, Array.getElem?_setIfInBounds_ne (Ne.symm ht)] using this
    · rename_i hd
      have := h t
      rwa [Array.setIfInBounds_eq_of_size_le (by rw [hN]; exact Nat.le_of_not_lt hd)]
theorem put_size {a : Act} {d : Option Tmp} {v : Value} : (a.put d v).tmps.size = a.tmps.size := by unfold Act.put; cases d <;> simp
theorem put_defers {a : Act} {d : Option Tmp} {v : Value} : (a.put d v).defers = a.defers := by unfold Act.put; cases d <;> simp
theorem GOK.mono {P : Program} {gl : Bool} {m m' : Mp} (hm : MLe m m') (h : GOK P gl m) : GOK P gl m' := fun hg g hlt => hm _ _ (h hg g hlt)

theorem VRel.bool_back {m : Mp} {v : Value} {b : Bool} (h : VRel m v (.bool b)) : v = .bool b := by
  cases h with
  | flat h => rfl
theorem VRel.not_bool {m : Mp} {v c : Value} (h : VRel m v c) (hc : ∀ b, c ≠ .bool b) : ∀ b, v ≠ .bool b := fun b hb => by
  subst hb
  exact hc b h.bool_inv
theorem wanted_sound' {m : Mp} {env : Env} {a : Act} (all : List Oper) (o : Oper) (hE : ∀ j want d, o.guard = some (j, want) → (all[j]?).bind (·.dst) = some d → VRel m (env d) (a.tmps.getD d undef)) : Region.wanted o (yielded all.toArray a.tmps) = wantedE all o env := by
  unfold Region.wanted wantedE
  cases hgd : o.guard with
  | none => rfl
  | some g =>
    obtain ⟨j, want⟩ := g
    simp only [yielded]
    have e1 : all.toArray[j]? = all[j]? := by simp
    rw [e1]
    cases hd : (all[j]?).bind (·.dst) with
    | none => simp
    | some d =>
      simp only [Option.bind_some]
      have h := hE j want d hgd hd
      cases hc : a.tmps[d]? with
      | none =>
        have : a.tmps.getD d undef = undef := by simp [Array.getD_eq_getD_getElem?, hc]
        rw [this] at h
        have hnb := h.not_bool (by simp [undef])
        cases he : env d with
        | bool b => exact absurd he (hnb b)
        | _ => rfl
      | some v =>
        have : a.tmps.getD d undef = v := by simp [Array.getD_eq_getD_getElem?, hc]
        rw [this] at h
        cases v with
        | bool b => rw [h.bool_back]; simp
        | _ =>
          have hnb := h.not_bool (by simp)
          cases he : env d with
          | bool b => exact absurd he (hnb b)
          | _ => rfl

theorem wanted_sound {m : Mp} {env : Env} {a : Act} (hE : ERel m env a) (all : List Oper) (o : Oper) : Region.wanted o (yielded all.toArray a.tmps) = wantedE all o env :=
  wanted_sound' all o fun _ _ d _ _ => hE d

theorem rounds_mono {P : Program} {c : Code} {Q Q' : Exit → Act → World → Prop} (hq : ∀ e a w, Q e a w → Q' e a w) : ∀ (n : Nat) (a : Act) (w : World), Code.rounds P c Q n a w → Code.rounds P c Q' n a w
  | 0, _, _, h => h
  | n + 1, a, w, h => by
    rw [rounds_succ] at h ⊢
    refine Code.wp_mono (fun e a w he => ?_) h
    cases e <;> first | exact rounds_mono hq n a w he | exact hq _ _ _ he

section
variable {P : Program} {gl : Bool} {C : CallF} {N : Nat} {Q : Exit → Act → World → Prop}
theorem aops_sound (hC : CSound P gl C) (all : List Oper) : ∀ (l : List Oper) (k : Nat), (∀ j, l[j]? = all[k + j]?) → ∀ {m : Mp} {env env' : Env} {H H' : Heap} {a : Act} {w : World},
    aops P C N all l env H = some (env', H') → GOK P gl m → ERel m env a → HRel m H w → MLow m H.n → (l.all fun o => o.op.operands.toList.all (okOpd P gl)) = true → a.tmps.size = N →
    (∀ m' a' w', ERel m' env' a' → Step m H w m' H' w' → a'.tmps.size = N → a'.defers = a.defers → Q .normal a' w') → wpOps P all.toArray Q (List.range' k l.length) a w
  | [], k, hl, m, env, env', H, H', a, w, h, hg, hE, hr, hlow, hok, hN, hq => by
    simp only [aops, Option.some.injEq, Prod.mk.injEq] at h
    obtain ⟨rfl, rfl⟩ := h
    exact hq m a w hE (Step.refl hr) hN rfl
  | o :: l, k, hl, m, env, env', H, H', a, w, h, hg, hE, hr, hlow, hok, hN, hq => by
    have h0 : all.toArray[k]? = some o := by have := hl 0; simpa using this.symm
    have hl' : ∀ j, l[j]? = all[k + 1 + j]? := fun j => by have := hl (j + 1); simpa [Nat.add_assoc, Nat.add_comm 1 j] using this
    simp only [List.all_cons, Bool.and_eq_true] at hok
    simp only [aops] at h
    simp only [List.length_cons, List.range'_succ, wpOps, h0]
    rw [wanted_sound hE]
    split at h
    · rename_i hw
      rw [if_pos hw]
      left
      split at h
      case h_2 => cases h
      rename_i v H1 hv
      have := aop_sound (Q := Q) hC hg hE hr hlow hok.1 hv
      refine Oper.wp_mono (K := fun a' w' => ∃ m' v', a' = a.put o.dst v' ∧ VRel m' v v' ∧ Step m H w m' H1 w') (fun a' w' ⟨m', v', ha, hvr, hs⟩ => ?_) this
      subst ha
      have hle := hs.mle hlow
      exact aops_sound hC all l (k + 1) hl' h (hg.mono hle) (ERel.put (hE.mono hle) hvr hN) hs.rel (hs.keepLow hlow) hok.2 (by rw [put_size]; exact hN)
        (fun m2 a2 w2 h1 h2 h3 h4 => hq m2 a2 w2 h1 (hs.trans h2) h3 (by rw [h4, put_defers]))
    · rename_i hw
      rw [if_neg hw]
      exact aops_sound hC all l (k + 1) hl' h hg (ERel.put hE VRel.undef hN) hr hlow hok.2 (by rw [put_size]; exact hN) (fun m2 a2 w2 h1 h2 h3 h4 => hq m2 a2 w2 h1 h2 h3 (by rw [h4, put_defers]))

end
end Go.Eng

set_option linter.unusedVariables false
namespace Go.Eng
open Go

def Low (H : Heap) : Prop := ∀ b blk, H.get b = some blk → b < H.n
def Mono (H H' : Heap) : Prop := H.n ≤ H'.n ∧ (Low H → Low H')
theorem Mono.refl (H : Heap) : Mono H H := ⟨Nat.le_refl _, id⟩
theorem Mono.trans {a b c : Heap} (h : Mono a b) (h' : Mono b c) : Mono a c := ⟨Nat.le_trans h.1 h'.1, fun x => h'.2 (h.2 x)⟩
theorem Mono.push (H : Heap) (blk : Blk) : Mono H (H.push blk) := ⟨by simp [Heap.push], fun h b k hb => by
  simp only [Heap.push] at hb ⊢
  split at hb
  · omega
  · have := h b k hb; omega⟩
theorem Mono.upd {H : Heap} {j : Nat} {k : Option Blk} (hj : ∀ b, H.get j = some b → True) (hs : (H.get j).isSome = true) : Mono H (H.upd j k) := ⟨Nat.le_refl _, fun h b k' hb => by
  simp only [Heap.upd] at hb ⊢
  split at hb
  · rename_i he
    subst he
    obtain ⟨q, hq⟩ := Option.isSome_iff_exists.1 hs
    exact h b q hq
  · exact h b k' hb⟩
def CMono (C : CallF) : Prop := ∀ f args H v H', C f args H = some (v, H') → Mono H H'

section
variable {P : Program} {C : CallF} {env : Env} {o : Op} {H H' : Heap} {v : Value}
theorem kite {c : Prop} [Decidable c] {k : OKind} (h : (if c then OKind.act else OKind.pure) = k) : k = .act ∨ k = .pure := by
  by_cases hc : c
  · rw [if_pos hc] at h; exact .inl h.symm
  · rw [if_neg hc] at h; exact .inr h.symm
theorem up_inv {x : Option Value} (h : up x H = some (v, H')) : x = some v ∧ H' = H := by
  unfold up at h
  split at h
  · simp only [Option.some.injEq, Prod.mk.injEq] at h; exact ⟨by rw [h.1], h.2.symm⟩
  · cases h
theorem kind_pure (hk : kindOf P o = .pure) (h : aop P C env o H = some (v, H')) : H' = H ∧ ∀ H2, aop P C env o H2 = some (v, H2) := by
  have plain : ∀ x : Option Value, (∀ H, aop P C env o H = up x H) → H' = H ∧ ∀ H2, aop P C env o H2 = some (v, H2) := fun x hx => by
    rw [hx] at h
    obtain ⟨rfl, rfl⟩ := up_inv h
    exact ⟨rfl, fun H2 => by rw [hx]; rfl⟩
  cases o <;> simp only [kindOf] at hk <;> first
    | (cases hk; done)
    | skip
  case move x => exact plain (some (ev env x)) (fun H => rfl)
  case assign x => exact plain (some (ev env x)) (fun H => rfl)
  case pick c a b =>
    simp only [aop] at h ⊢
    split at h
    · simp only [Option.some.injEq, Prod.mk.injEq] at h; obtain ⟨rfl, rfl⟩ := h; exact ⟨rfl, fun _ => rfl⟩
    · cases h
  case build t ps =>
    simp only [aop] at h ⊢
    split at h
    · split at h
      · simp only [Option.some.injEq, Prod.mk.injEq] at h; obtain ⟨rfl, rfl⟩ := h; exact ⟨rfl, fun _ => rfl⟩
      · cases h
    · cases h
  case nilCheck x =>
    simp only [aop] at h ⊢
    split at h
    · simp only [Option.some.injEq, Prod.mk.injEq] at h; obtain ⟨rfl, rfl⟩ := h; exact ⟨rfl, fun _ => rfl⟩
    · simp only [Option.some.injEq, Prod.mk.injEq] at h; obtain ⟨rfl, rfl⟩ := h; exact ⟨rfl, fun _ => rfl⟩
    · cases h
  case binOp op t x y yt => exact plain _ (fun H => rfl)
  case unOp op t x => exact plain _ (fun H => rfl)
  case convert s d x =>
    simp only [aop] at h ⊢
    cases hc : cnvOf P s d <;> simp only [hc] at hk h ⊢ <;> first | (cases hk; done) | skip
    · simp only [cnv] at h ⊢
      split at h
      · simp only [Option.some.injEq, Prod.mk.injEq] at h; obtain ⟨rfl, rfl⟩ := h; exact ⟨rfl, fun _ => rfl⟩
      · cases h
    · simp only [cnv] at h ⊢
      split at h
      · simp only [Option.some.injEq, Prod.mk.injEq] at h; obtain ⟨rfl, rfl⟩ := h; exact ⟨rfl, fun _ => rfl⟩
      · cases h
    · simp only [cnv] at h ⊢
      split at h
      · simp only [Option.some.injEq, Prod.mk.injEq] at h; obtain ⟨rfl, rfl⟩ := h; exact ⟨rfl, fun _ => rfl⟩
      · cases h
    · simp [cnv] at h
  case makeFunc fn first captured =>
    cases fn <;> simp only [aop] at h ⊢ <;> first | (cases h; done) | skip
    simp only [Option.some.injEq, Prod.mk.injEq] at h; obtain ⟨rfl, rfl⟩ := h; exact ⟨rfl, fun _ => rfl⟩
  case slice t x lo hi mx =>
    simp only [aop] at h ⊢
    split at h
    · split at h
      · rename_i hmx
        obtain ⟨h2, rfl⟩ := up_inv h; exact ⟨rfl, fun _ => by rw [if_pos hmx, h2]; rfl⟩
      · cases h
    · split at h
      · obtain ⟨h2, rfl⟩ := up_inv h; exact ⟨rfl, fun _ => by rw [h2]; rfl⟩
      · cases h
    · split at h
      · obtain ⟨h2, rfl⟩ := up_inv h; exact ⟨rfl, fun _ => by rw [h2]; rfl⟩
      · cases h
    · cases h
  case fieldAddr s x f =>
    simp only [aop] at h ⊢
    split at h
    · split at h
      · split at h
        · obtain ⟨h2, rfl⟩ := up_inv h; exact ⟨rfl, fun _ => by rw [h2]; rfl⟩
        · cases h
      · cases h
    · cases h
  case field s x f =>
    simp only [aop] at h ⊢
    split at h
    · split at h
      · split at h
        · obtain ⟨h2, rfl⟩ := up_inv h; exact ⟨rfl, fun _ => by rw [h2]; rfl⟩
        · cases h
      · cases h
    · cases h
  case indexAddr t x i =>
    simp only [aop] at h ⊢
    split at h
    · split at h
      · obtain ⟨h2, rfl⟩ := up_inv h; exact ⟨rfl, fun _ => by rw [h2]; rfl⟩
      · cases h
    · split at h
      · obtain ⟨h2, rfl⟩ := up_inv h; exact ⟨rfl, fun _ => by rw [h2]; rfl⟩
      · cases h
    · cases h
  case index t x i =>
    simp only [aop] at h ⊢
    split at h
    · split at h
      · obtain ⟨h2, rfl⟩ := up_inv h; exact ⟨rfl, fun _ => by rw [h2]; rfl⟩
      · cases h
    · obtain ⟨h2, rfl⟩ := up_inv h; exact ⟨rfl, fun _ => by rw [h2]; rfl⟩
    · cases h
  case extract t ix =>
    simp only [aop] at h ⊢
    split at h
    · obtain ⟨h2, rfl⟩ := up_inv h; exact ⟨rfl, fun _ => by rw [h2]; rfl⟩
    · cases h
  case call c =>
    obtain ⟨callee, args, argTypes⟩ := c
    cases callee with
    | value f => simp only [kindOf] at hk; cases hk
    | invoke r n => simp only [kindOf] at hk; cases hk
    | builtin b =>
      simp only [aop] at h ⊢
      cases b <;> simp only [kindOf] at hk <;> first | (cases hk; done) | skip
      · simp only [builtinB] at h ⊢
        split at h
        all_goals first
          | (split at h
             · obtain ⟨h2, rfl⟩ := up_inv h; exact ⟨rfl, fun _ => by rw [h2]; rfl⟩
             · cases h; done)
          | (cases h; done)
          | contradiction
      · simp only [builtinB] at h ⊢
        split at h
        · rename_i x hx
          cases ht : argTypes[0]? with
          | none => rw [ht] at h; cases h
          | some t =>
            rw [ht] at h hk
            simp only at h hk
            by_cases hm : isMapT P t = true
            · rw [if_pos hm] at hk; cases hk
            · rw [if_neg hm] at h
              obtain ⟨h2, rfl⟩ := up_inv h
              refine ⟨rfl, fun _ => ?_⟩
              simp only [if_neg hm, h2]; rfl
        all_goals first
          | (cases h; done)
          | contradiction
      · simp only [builtinB] at h ⊢
        split at h
        all_goals first
          | (split at h
             · rename_i hc
               simp only [Option.some.injEq, Prod.mk.injEq] at h; obtain ⟨rfl, rfl⟩ := h; exact ⟨rfl, fun _ => by rw [if_pos hc]⟩
             · cases h; done)
          | (cases h; done)
          | contradiction
      · simp only [builtinB] at h ⊢
        split at h
        all_goals first
          | (split at h
             · rename_i hc
               simp only [Option.some.injEq, Prod.mk.injEq] at h; obtain ⟨rfl, rfl⟩ := h; exact ⟨rfl, fun _ => by rw [if_pos hc]⟩
             · cases h; done)
          | (cases h; done)
          | contradiction

theorem kind_make (hk : kindOf P o = .make) (h : aop P C env o H = some (v, H')) : ∃ blk, H' = H.push blk ∧ (blk.cells.all oneC = true ∧ blk.own = true) ∧ ∀ H2 : Heap, H2.n = H.n → aop P C env o H2 = some (v, H2.push blk) := by
  have hV : ∀ {cs : List Value} {H' : Heap}, newV cs H = some (v, H') → ∃ blk, H' = H.push blk ∧ (blk.cells.all oneC = true ∧ blk.own = true) ∧ ∀ H2 : Heap, H2.n = H.n → newV cs H2 = some (v, H2.push blk) := fun {cs H'} h => by
    unfold newV at h ⊢
    split at h
    · rename_i h1
      simp only [Option.some.injEq, Prod.mk.injEq] at h
      obtain ⟨rfl, rfl⟩ := h
      exact ⟨_, rfl, ⟨h1, rfl⟩, fun H2 hn => by rw [if_pos h1, hn]⟩
    · cases h
  have hS : ∀ {cs : List Value} {sz len cap : Nat} {H' : Heap}, newS sz len cap cs H = some (v, H') → ∃ blk, H' = H.push blk ∧ (blk.cells.all oneC = true ∧ blk.own = true) ∧ ∀ H2 : Heap, H2.n = H.n → newS sz len cap cs H2 = some (v, H2.push blk) := fun {cs sz len cap H'} h => by
    unfold newS at h ⊢
    split at h
    · rename_i h1
      simp only [Option.some.injEq, Prod.mk.injEq] at h
      obtain ⟨rfl, rfl⟩ := h
      exact ⟨_, rfl, ⟨h1, rfl⟩, fun H2 hn => by rw [if_pos h1, hn]⟩
    · cases h
  cases o <;> simp only [kindOf] at hk <;> first | (cases hk; done) | skip
  case alloc e =>
    simp only [aop] at h ⊢
    split at h
    · exact hV h
    · cases h
  case box e x => simp only [aop] at h ⊢; exact hV h
  case buildSlice t len ps =>
    simp only [aop] at h ⊢
    split at h
    · split at h
      · split at h
        · rename_i hc
          split at h
          · obtain ⟨blk, h1, h2, h3⟩ := hS h
            exact ⟨blk, h1, h2, fun H2 hn => by rw [if_pos hc]; exact h3 H2 hn⟩
          · cases h
        · cases h
      · cases h
    · cases h
  case makeSlice t l c =>
    simp only [aop] at h ⊢
    split at h
    · split at h
      · split at h
        · rename_i hc
          obtain ⟨blk, h1, h2, h3⟩ := hS h
          exact ⟨blk, h1, h2, fun H2 hn => by rw [if_pos hc]; exact h3 H2 hn⟩
        · cases h
      · cases h
    · cases h
  case convert s d x =>
    simp only [aop] at h ⊢
    cases hc : cnvOf P s d <;> simp only [hc] at hk h ⊢ <;> first | (cases hk; done) | skip
    simp only [cnv, ofStr] at h ⊢
    split at h
    · split at h
      · rename_i s' hs'
        simp only [Option.some.injEq, Prod.mk.injEq] at h
        obtain ⟨rfl, rfl⟩ := h
        refine ⟨_, rfl, ⟨?_, rfl⟩, fun H2 hn => by rw [if_pos hs', hn]⟩
        rw [List.all_eq_true]
        intro y hy
        obtain ⟨c, _, rfl⟩ := List.mem_map.1 hy
        rfl
      · cases h
    · cases h
  case call c =>
    obtain ⟨callee, args, argTypes⟩ := c
    cases callee with
    | value f => simp only [kindOf] at hk; cases hk
    | invoke r n => simp only [kindOf] at hk; cases hk
    | builtin b => cases b <;> simp only [kindOf] at hk <;> first | (cases hk; done) | (rcases kite hk with h1 | h1 <;> cases h1)

theorem kind_read (hk : kindOf P o = .read) (h : aop P C env o H = some (v, H')) : H' = H ∧ True ∧ ∀ H2 : Heap, (∀ b, readBlk env o = some b → H2.get b = H.get b) → aop P C env o H2 = some (v, H2) := by
  cases o <;> simp only [kindOf] at hk <;> first | (cases hk; done) | skip
  case load t x =>
    simp only [aop, readBlk] at h ⊢
    have hA : ∀ k, ldA k (ev env x) H = some (v, H') → H' = H ∧ True ∧ ∀ H2 : Heap, (∀ b, blkOf (ev env x) = some b → H2.get b = H.get b) → ldA k (ev env x) H2 = some (v, H2) := fun k h => by
      unfold ldA at h ⊢
      split at h
      · rename_i b o he
        split at h
        · rename_i blk hb
          split at h
          · rename_i hc
            simp only [Option.some.injEq, Prod.mk.injEq] at h
            obtain ⟨rfl, rfl⟩ := h
            rw [he]
            exact ⟨rfl, trivial, fun H2 h2 => by simp only [h2 b rfl, hb, if_pos hc]⟩
          · cases h
        · cases h
      · cases h
    have hCc : ldC (ev env x) H = some (v, H') → H' = H ∧ True ∧ ∀ H2 : Heap, (∀ b, blkOf (ev env x) = some b → H2.get b = H.get b) → ldC (ev env x) H2 = some (v, H2) := fun h => by
      unfold ldC at h ⊢
      split at h
      · rename_i b o he
        split at h
        · rename_i blk hb
          split at h
          · rename_i v' hc
            simp only [Option.some.injEq, Prod.mk.injEq] at h
            obtain ⟨rfl, rfl⟩ := h
            rw [he]
            exact ⟨rfl, trivial, fun H2 h2 => by simp only [h2 b rfl, hb, hc]⟩
          · cases h
        · cases h
      · cases h
    split at h
    · rename_i k ha hk'
      obtain ⟨h1, h2, h3⟩ := hA k h
      exact ⟨h1, h2, fun H2 hb => h3 H2 hb⟩
    · rename_i ha
      obtain ⟨h1, h2, h3⟩ := hCc h
      exact ⟨h1, h2, fun H2 hb => h3 H2 hb⟩
    · cases h
  case convert s d x =>
    simp only [aop, readBlk] at h ⊢
    cases hc : cnvOf P s d <;> simp only [hc] at hk h ⊢ <;> first | (cases hk; done) | skip
    simp only [cnv, toStr] at h ⊢
    split at h
    · rename_i he
      simp only [Option.some.injEq, Prod.mk.injEq] at h
      obtain ⟨rfl, rfl⟩ := h
      rw [he]
      exact ⟨rfl, trivial, fun _ _ => rfl⟩
    · rename_i b o sp n c he
      split at h
      · rename_i hn
        simp only [Option.some.injEq, Prod.mk.injEq] at h
        obtain ⟨rfl, rfl⟩ := h
        rw [he]
        exact ⟨rfl, trivial, fun _ _ => by simp only [if_pos hn]⟩
      rename_i hn
      split at h
      · rename_i blk hb
        split at h
        · rename_i hle
          split at h
          · rename_i l hl
            simp only [Option.some.injEq, Prod.mk.injEq] at h
            obtain ⟨rfl, rfl⟩ := h
            rw [he]
            exact ⟨rfl, trivial, fun H2 h2 => by simp only [if_neg hn, h2 b rfl, hb, if_pos hle, hl]⟩
          · cases h
        · cases h
      · cases h
    · cases h
  case call c =>
    obtain ⟨callee, args, argTypes⟩ := c
    cases callee with
    | value f => exact nomatch (show OKind.act = OKind.read from hk)
    | invoke r n => exact nomatch (show OKind.act = OKind.read from hk)
    | builtin b =>
      cases b <;> first
        | exact nomatch (show OKind.act = OKind.read from hk)
        | exact nomatch (show OKind.pure = OKind.read from hk)
        | (simp only [kindOf] at hk; rcases kite hk with h1 | h1 <;> cases h1)
end

end Go.Eng

set_option linter.unusedVariables false
namespace Go.Eng
open Go

section
variable {P : Program} {C : CallF} {env : Env} {o : Op} {H H' : Heap} {v : Value}
theorem Mono.upd' {b : Nat} {blk : Blk} {k : Option Blk} (hb : H.get b = some blk) : Mono H (H.upd b k) := ⟨Nat.le_refl _, fun h b' k' hb' => by
  simp only [Heap.upd] at hb' ⊢
  split at hb'
  · rename_i he; subst he; exact h b' blk hb
  · exact h b' k' hb'⟩
theorem app_mono {sz by_ : Nat} {s x : Value} (h : app sz by_ s x H = some (v, H')) : Mono H H' := by
  unfold app at h
  split at h
  case h_2 => cases h
  split at h
  · simp only [Option.some.injEq, Prod.mk.injEq] at h; obtain ⟨_, rfl⟩ := h; exact Mono.refl _
  · split at h
    · cases h
    · split at h
      · split at h
        · simp only [Option.some.injEq, Prod.mk.injEq] at h; obtain ⟨_, rfl⟩ := h; exact Mono.push _ _
        · cases h
      · split at h
        · cases h
        · rename_i blk hb
          split at h
          · split at h
            · simp only [Option.some.injEq, Prod.mk.injEq] at h; obtain ⟨_, rfl⟩ := h; exact Mono.push _ _
            · cases h
          · split at h
            · simp only [Option.some.injEq, Prod.mk.injEq] at h; obtain ⟨_, rfl⟩ := h; exact (Mono.upd' hb).trans (Mono.push _ _)
            · split at h
              · simp only [Option.some.injEq, Prod.mk.injEq] at h; obtain ⟨_, rfl⟩ := h; exact Mono.upd' hb
              · cases h
theorem appZ_mono {sz by_ : Nat} {zs : List Value} {s x : Value} (h : appZ sz by_ zs s x H = some (v, H')) : Mono H H' := by
  unfold appZ at h
  split at h
  case h_2 => cases h
  split at h
  · simp only [Option.some.injEq, Prod.mk.injEq] at h; obtain ⟨_, rfl⟩ := h; exact Mono.push _ _
  · cases h
theorem cpy_mono {sz : Nat} {d x : Value} (h : cpy sz d x H = some (v, H')) : Mono H H' := by
  unfold cpy at h
  split at h
  case h_2 => cases h
  simp only at h
  split at h
  · simp only [Option.some.injEq, Prod.mk.injEq] at h; obtain ⟨_, rfl⟩ := h; exact Mono.refl _
  · split at h
    · rename_i blk hb
      split at h
      · simp only [Option.some.injEq, Prod.mk.injEq] at h; obtain ⟨_, rfl⟩ := h; exact Mono.upd' hb
      · cases h
    · cases h
theorem stV_mono {k : Nat} {a x : Value} (h : stV k a x H = some (v, H')) : Mono H H' := by
  unfold stV at h
  split at h
  · split at h
    · rename_i blk hb
      split at h
      · simp only [Option.some.injEq, Prod.mk.injEq] at h; obtain ⟨_, rfl⟩ := h; exact Mono.upd' hb
      · cases h
    · cases h
  · cases h
theorem rngS_mono {x : Value} (h : rngS x H = some (v, H')) : Mono H H' := by
  unfold rngS at h
  split at h
  · simp only [Option.some.injEq, Prod.mk.injEq] at h; obtain ⟨_, rfl⟩ := h; exact Mono.push _ _
  · cases h
theorem nxtS_mono {x : Value} (h : nxtS x H = some (v, H')) : Mono H H' := by
  unfold nxtS at h
  split at h
  · split at h
    · rename_i hob
      obtain ⟨k, hk, _⟩ := obAt_inv hob
      split at h
      · simp only [Option.some.injEq, Prod.mk.injEq] at h; obtain ⟨_, rfl⟩ := h; exact Mono.upd' hk
      · simp only [Option.some.injEq, Prod.mk.injEq] at h; obtain ⟨_, rfl⟩ := h; exact Mono.refl _
    · cases h
  · cases h
theorem mkM_mono (h : mkM H = some (v, H')) : Mono H H' := by
  unfold mkM at h
  simp only [Option.some.injEq, Prod.mk.injEq] at h; obtain ⟨_, rfl⟩ := h; exact Mono.push _ _
theorem lkM_same {d : TypeDesc} {z x k : Value} {ok : Bool} (h : lkM d z ok x k H = some (v, H')) : H' = H := by
  unfold lkM at h
  split at h
  · simp only [Option.some.injEq, Prod.mk.injEq] at h; exact h.2.symm
  · split at h
    · split at h
      · simp only [Option.some.injEq, Prod.mk.injEq] at h; exact h.2.symm
      · simp only [Option.some.injEq, Prod.mk.injEq] at h; exact h.2.symm
      · cases h
    · cases h
  · cases h
theorem lenM_same {x : Value} (h : lenM x H = some (v, H')) : H' = H := by
  unfold lenM at h
  split at h
  · simp only [Option.some.injEq, Prod.mk.injEq] at h; exact h.2.symm
  · split at h
    · simp only [Option.some.injEq, Prod.mk.injEq] at h; exact h.2.symm
    · cases h
  · cases h
theorem upM_mono {d : TypeDesc} {x k y : Value} (h : upM d x k y H = some (v, H')) : Mono H H' := by
  unfold upM at h
  split at h
  · split at h
    · rename_i hob
      obtain ⟨q, hk, _⟩ := obAt_inv hob
      split at h
      · simp only [Option.some.injEq, Prod.mk.injEq] at h; obtain ⟨_, rfl⟩ := h; exact Mono.upd' hk
      · simp only [Option.some.injEq, Prod.mk.injEq] at h; obtain ⟨_, rfl⟩ := h; exact Mono.upd' hk
      · cases h
    · cases h
  · cases h
theorem aop_mono (hC : CMono C) (h : aop P C env o H = some (v, H')) : Mono H H' := by
  cases hk : kindOf P o with
  | pure => obtain ⟨rfl, _⟩ := kind_pure hk h; exact Mono.refl _
  | read => obtain ⟨rfl, _⟩ := kind_read hk h; exact Mono.refl _
  | make => obtain ⟨blk, rfl, _⟩ := kind_make hk h; exact Mono.push _ _
  | act =>
    cases o <;> first
      | (simp only [kindOf] at hk; cases hk; done)
      | (simp only [aop] at h; cases h; done)
      | skip
    case store t x y =>
      simp only [aop] at h
      split at h
      · exact stV_mono h
      · cases h
    case range t x =>
      simp only [aop] at h
      split at h
      · exact rngS_mono h
      · cases h
    case next x b =>
      cases b with
      | false => simp only [aop] at h; cases h
      | true => simp only [aop] at h; exact nxtS_mono h
    case makeMap t r =>
      simp only [aop] at h
      split at h
      · exact mkM_mono h
      · exact mkM_mono h
      · cases h
    case lookup t x k ok =>
      simp only [aop] at h
      split at h
      · split at h
        · split at h
          · rw [lkM_same h]; exact Mono.refl _
          · cases h
        · cases h
      · cases h
    case mapUpdate t x k y =>
      simp only [aop] at h
      split at h
      · split at h
        · split at h
          · exact upM_mono h
          · cases h
        · cases h
      · cases h
    case insert t x k y =>
      simp only [aop] at h
      split at h
      · split at h
        · split at h
          · exact upM_mono h
          · cases h
        · cases h
      · cases h
    case convert s d x =>
      simp only [kindOf] at hk
      split at hk <;> first | (cases hk; done) | skip
      rename_i hc
      simp only [aop, hc, cnv] at h
      unfold markV at h
      split at h
      · split at h
        · split at h
          · simp only [Option.some.injEq, Prod.mk.injEq] at h; obtain ⟨_, rfl⟩ := h; exact Mono.refl _
          · cases h
        · cases h
      · cases h
    case call c =>
      obtain ⟨callee, args, argTypes⟩ := c
      cases callee with
      | value f =>
        simp only [aop] at h
        split at h
        · exact hC _ _ _ _ _ h
        · cases h
      | invoke r n => simp only [aop] at h; cases h
      | builtin b =>
        simp only [aop] at h
        unfold builtinB at h
        split at h
        · split at h
          · split at h
            · rw [lenM_same h]; exact Mono.refl _
            · obtain ⟨_, rfl⟩ := up_inv h; exact Mono.refl _
          · cases h
        · split at h
          · obtain ⟨_, rfl⟩ := up_inv h; exact Mono.refl _
          · cases h
        · split at h
          · split at h
            · split at h
              · split at h
                · split at h
                  · exact app_mono h
                  · exact app_mono h
                  · exact appZ_mono h
                  · cases h
                · cases h
              · cases h
            · cases h
          · cases h
        · split at h
          · split at h
            · split at h
              · exact cpy_mono h
              · cases h
            · cases h
          · cases h
        · split at h
          · simp only [Option.some.injEq, Prod.mk.injEq] at h; obtain ⟨_, rfl⟩ := h; exact Mono.refl _
          · cases h
        · split at h
          · simp only [Option.some.injEq, Prod.mk.injEq] at h; obtain ⟨_, rfl⟩ := h; exact Mono.refl _
          · cases h
        · cases h
end

def touch (P : Program) (env : Env) (H : Heap) (o : Op) : Option (Option Nat) :=
  match kindOf P o with
  | .read => some (readBlk env o)
  | .make => some (some H.n)
  | _ => none

structure Trc (P : Program) (C : CallF) (N : Nat) (all : List Oper) (bf : List Nat) (k n : Nat) (e : Nat → Env) (h : Nat → Heap) (v : Nat → Value) (acts : List (Nat × Heap × Heap)) (reads : List (Nat × Option Nat)) : Prop where
  yes : ∀ j o, k ≤ j → j < n → all[j]? = some o → wantedE all o (e j) = true → aop P C (e j) o.op (h j) = some (v j, h (j + 1))
  no : ∀ j o, k ≤ j → j < n → all[j]? = some o → wantedE all o (e j) = false → v j = undef ∧ h (j + 1) = h j
  put : ∀ j o, k ≤ j → j < n → all[j]? = some o → e (j + 1) = putE N (e j) o.dst (v j)
  actA : ∀ j o, k ≤ j → j < n → all[j]? = some o → wantedE all o (e j) = true → kindOf P o.op = .act → ∀ x ∈ reads, ordered bf x.1 j = true ∨ sameBlk (h j) (h (j + 1)) x.2 = true
  readA : ∀ j o, k ≤ j → j < n → all[j]? = some o → wantedE all o (e j) = true → kindOf P o.op = .read → ∀ x ∈ acts, ordered bf x.1 j = true ∨ sameBlk x.2.1 x.2.2 (readBlk (e j) o.op) = true
  act : ∀ i j o q b, k ≤ i → i < j → j < n → all[i]? = some o → all[j]? = some q → wantedE all o (e i) = true → wantedE all q (e j) = true → touch P (e i) (h i) o.op = some b → kindOf P q.op = .act → ordered bf i j = true ∨ sameBlk (h j) (h (j + 1)) b = true
  read : ∀ i j o q, k ≤ i → i < j → j < n → all[i]? = some o → all[j]? = some q → wantedE all o (e i) = true → wantedE all q (e j) = true → kindOf P o.op = .act → kindOf P q.op = .read → ordered bf i j = true ∨ sameBlk (h i) (h (i + 1)) (readBlk (e j) q.op) = true

def cs {α : Type} (k : Nat) (a : α) (f : Nat → α) : Nat → α := fun i => if i = k then a else f i
theorem cs_eq {α : Type} (k : Nat) (a : α) (f : Nat → α) : cs k a f k = a := by simp [cs]
theorem cs_gt {α : Type} {k i : Nat} (a : α) (f : Nat → α) (h : k < i) : cs k a f i = f i := by simp [cs]; omega

theorem Trc.cons {P : Program} {C : CallF} {N : Nat} {all : List Oper} {bf : List Nat} {k n : Nat} {e : Nat → Env} {h : Nat → Heap} {v : Nat → Value} {acts acts' : List (Nat × Heap × Heap)} {reads reads' : List (Nat × Option Nat)} {env : Env} {H : Heap} {o : Oper} {val : Value}
    (ho : all[k]? = some o) (T : Trc P C N all bf (k + 1) n e h v acts' reads') (hn : k < n)
    (hy : wantedE all o env = true → aop P C env o.op H = some (val, h (k + 1))) (hno : wantedE all o env = false → val = undef ∧ h (k + 1) = H) (he : e (k + 1) = putE N env o.dst val)
    (ha : ∀ x ∈ acts, x ∈ acts') (hr : ∀ x ∈ reads, x ∈ reads') (ha2 : wantedE all o env = true → kindOf P o.op = .act → (k, H, h (k + 1)) ∈ acts') (hr2 : ∀ b, wantedE all o env = true → touch P env H o.op = some b → (k, b) ∈ reads')
    (c1 : wantedE all o env = true → kindOf P o.op = .act → ∀ x ∈ reads, ordered bf x.1 k = true ∨ sameBlk H (h (k + 1)) x.2 = true)
    (c2 : wantedE all o env = true → kindOf P o.op = .read → ∀ x ∈ acts, ordered bf x.1 k = true ∨ sameBlk x.2.1 x.2.2 (readBlk env o.op) = true) :
    Trc P C N all bf k n (cs k env e) (cs k H h) (cs k val v) acts reads := by
  have g1 : ∀ {α : Type} {j : Nat} (a : α) (f : Nat → α), k ≤ j → cs k a f (j + 1) = f (j + 1) := fun a f hj => cs_gt a f (by omega)
  refine ⟨?_, ?_, ?_, ?_, ?_, ?_, ?_⟩
  · intro j q hk hj hq hw
    rw [g1 _ _ hk]
    rcases Nat.eq_or_lt_of_le hk with rfl | hlt
    · rw [cs_eq] at hw ⊢; rw [cs_eq, cs_eq]; rw [ho] at hq; cases hq; exact hy hw
    · rw [cs_gt _ _ hlt] at hw ⊢; rw [cs_gt _ _ hlt, cs_gt _ _ hlt]; exact T.yes j q hlt hj hq hw
  · intro j q hk hj hq hw
    rw [g1 _ _ hk]
    rcases Nat.eq_or_lt_of_le hk with rfl | hlt
    · rw [cs_eq] at hw; rw [cs_eq, cs_eq]; rw [ho] at hq; cases hq; exact hno hw
    · rw [cs_gt _ _ hlt] at hw; rw [cs_gt _ _ hlt, cs_gt _ _ hlt]; exact T.no j q hlt hj hq hw
  · intro j q hk hj hq
    rw [g1 _ _ hk]
    rcases Nat.eq_or_lt_of_le hk with rfl | hlt
    · rw [cs_eq, cs_eq]; rw [ho] at hq; cases hq; exact he
    · rw [cs_gt _ _ hlt, cs_gt _ _ hlt]; exact T.put j q hlt hj hq
  · intro j q hk hj hq hw hka x hx
    rw [g1 _ _ hk]
    rcases Nat.eq_or_lt_of_le hk with rfl | hlt
    · rw [cs_eq] at hw; rw [cs_eq]; rw [ho] at hq; cases hq; exact c1 hw hka x hx
    · rw [cs_gt _ _ hlt] at hw; rw [cs_gt _ _ hlt]; exact T.actA j q hlt hj hq hw hka x (hr x hx)
  · intro j q hk hj hq hw hka x hx
    rcases Nat.eq_or_lt_of_le hk with rfl | hlt
    · rw [cs_eq] at hw; rw [cs_eq]; rw [ho] at hq; cases hq; exact c2 hw hka x hx
    · rw [cs_gt _ _ hlt] at hw; rw [cs_gt _ _ hlt]; exact T.readA j q hlt hj hq hw hka x (ha x hx)
  · intro i j q1 q2 b hk hij hj hq1 hq2 hw1 hw2 ht hka
    have hlt : k < j := by omega
    rw [cs_gt _ _ hlt] at hw2
    rw [cs_gt _ _ hlt, cs_gt _ _ (by omega)]
    rcases Nat.eq_or_lt_of_le hk with rfl | hlt2
    · rw [cs_eq] at hw1 ht; rw [cs_eq] at ht; rw [ho] at hq1; cases hq1
      exact T.actA j q2 hlt hj hq2 hw2 hka (k, b) (hr2 b hw1 ht)
    · rw [cs_gt _ _ hlt2] at hw1 ht; rw [cs_gt _ _ hlt2] at ht
      exact T.act i j q1 q2 b hlt2 hij hj hq1 hq2 hw1 hw2 ht hka
  · intro i j q1 q2 hk hij hj hq1 hq2 hw1 hw2 hk1 hk2
    have hlt : k < j := by omega
    rw [cs_gt _ _ hlt] at hw2
    rw [g1 _ _ hk, cs_gt _ _ hlt]
    rcases Nat.eq_or_lt_of_le hk with rfl | hlt2
    · rw [cs_eq] at hw1; rw [cs_eq]; rw [ho] at hq1; cases hq1
      exact T.readA j q2 hlt hj hq2 hw2 hk2 (k, H, h (k + 1)) (ha2 hw1 hk1)
    · rw [cs_gt _ _ hlt2] at hw1; rw [cs_gt _ _ hlt2]
      exact T.read i j q1 q2 hlt2 hij hj hq1 hq2 hw1 hw2 hk1 hk2

theorem trace {P : Program} {C : CallF} {N : Nat} {all : List Oper} {bf : List Nat} : ∀ (l : List Oper) (k : Nat) (acts : List (Nat × Heap × Heap)) (reads : List (Nat × Option Nat)) (env : Env) (H : Heap) (env' : Env) (H' : Heap), (∀ j, l[j]? = all[k + j]?) →
    aopsD P C N all bf l k acts reads env H = some (env', H') → ∃ e h v, e k = env ∧ h k = H ∧ e (k + l.length) = env' ∧ h (k + l.length) = H' ∧ Trc P C N all bf k (k + l.length) e h v acts reads
  | [], k, acts, reads, env, H, env', H', hl, h => by
    simp only [aopsD, Option.some.injEq, Prod.mk.injEq] at h
    obtain ⟨rfl, rfl⟩ := h
    refine ⟨fun _ => env, fun _ => H, fun _ => undef, rfl, rfl, rfl, rfl, ?_⟩
    constructor <;> intros <;> simp only [List.length_nil] at * <;> omega
  | o :: l, k, acts, reads, env, H, env', H', hl, h => by
    have ho : all[k]? = some o := by have := hl 0; simpa using this.symm
    have hl' : ∀ j, l[j]? = all[k + 1 + j]? := fun j => by have := hl (j + 1); simpa [Nat.add_assoc, Nat.add_comm 1 j] using this
    have hlen : k + (o :: l).length = k + 1 + l.length := by simp; omega
    simp only [aopsD] at h
    rw [hlen]
    have go : ∀ (acts' : List (Nat × Heap × Heap)) (reads' : List (Nat × Option Nat)) (val : Value) (H1 : Heap), aopsD P C N all bf l (k + 1) acts' reads' (putE N env o.dst val) H1 = some (env', H') →
        (wantedE all o env = true → aop P C env o.op H = some (val, H1)) → (wantedE all o env = false → val = undef ∧ H1 = H) →
        (∀ x ∈ acts, x ∈ acts') → (∀ x ∈ reads, x ∈ reads') → (wantedE all o env = true → kindOf P o.op = .act → (k, H, H1) ∈ acts') → (∀ b, wantedE all o env = true → touch P env H o.op = some b → (k, b) ∈ reads') →
        (wantedE all o env = true → kindOf P o.op = .act → ∀ x ∈ reads, ordered bf x.1 k = true ∨ sameBlk H H1 x.2 = true) →
        (wantedE all o env = true → kindOf P o.op = .read → ∀ x ∈ acts, ordered bf x.1 k = true ∨ sameBlk x.2.1 x.2.2 (readBlk env o.op) = true) →
        ∃ e h v, e k = env ∧ h k = H ∧ e (k + 1 + l.length) = env' ∧ h (k + 1 + l.length) = H' ∧ Trc P C N all bf k (k + 1 + l.length) e h v acts reads := by
      intro acts' reads' val H1 hrec a1 a2 a3 a4 a5 a6 a7 a8
      obtain ⟨e, h, v, q1, q2, q3, q4, T⟩ := trace l (k + 1) acts' reads' _ H1 env' H' hl' hrec
      subst q2
      refine ⟨cs k env e, cs k H h, cs k val v, cs_eq _ _ _, cs_eq _ _ _, by rw [cs_gt _ _ (by omega)]; exact q3, by rw [cs_gt _ _ (by omega)]; exact q4, ?_⟩
      exact Trc.cons ho T (by omega) a1 a2 q1 a3 a4 a5 a6 a7 a8
    split at h
    · rename_i hw
      split at h
      · rename_i hk
        split at h
        case isFalse => cases h
        rename_i hc
        split at h
        case h_2 => cases h
        rename_i v1 H1 hv
        refine go _ _ v1 H1 h (fun _ => hv) (fun h0 => by rw [hw] at h0; cases h0) (fun x hx => hx) (fun x hx => by simp [hx]) (fun _ h0 => by rw [hk] at h0; cases h0) (fun b _ hb => ?_) (fun _ h0 => by rw [hk] at h0; cases h0) (fun _ _ x hx => ?_)
        · simp only [touch, hk, Option.some.injEq] at hb; subst hb; simp
        · rw [List.all_eq_true] at hc; simpa using hc x hx
      · rename_i hk
        split at h
        case h_2 => cases h
        rename_i v1 H1 hv
        split at h
        case isFalse => cases h
        rename_i hc
        refine go _ _ v1 H1 h (fun _ => hv) (fun h0 => by rw [hw] at h0; cases h0) (fun x hx => by simp [hx]) (fun x hx => hx) (fun _ _ => by simp) (fun b _ hb => by simp [touch, hk] at hb) (fun _ _ x hx => ?_) (fun _ h0 => by rw [hk] at h0; cases h0)
        rw [List.all_eq_true] at hc; simpa using hc x hx
      · rename_i hk
        split at h
        case h_2 => cases h
        rename_i v1 H1 hv
        refine go _ _ v1 H1 h (fun _ => hv) (fun h0 => by rw [hw] at h0; cases h0) (fun x hx => hx) (fun x hx => by simp [hx]) (fun _ h0 => by rw [hk] at h0; cases h0) (fun b _ hb => ?_) (fun _ h0 => by rw [hk] at h0; cases h0) (fun _ h0 => by rw [hk] at h0; cases h0)
        simp only [touch, hk, Option.some.injEq] at hb; subst hb; simp
      · rename_i hk
        split at h
        case h_2 => cases h
        rename_i v1 H1 hv
        exact go _ _ v1 H1 h (fun _ => hv) (fun h0 => by rw [hw] at h0; cases h0) (fun x hx => hx) (fun x hx => hx) (fun _ h0 => by rw [hk] at h0; cases h0) (fun b _ hb => by simp [touch, hk] at hb) (fun _ h0 => by rw [hk] at h0; cases h0) (fun _ h0 => by rw [hk] at h0; cases h0)
    · rename_i hw
      have hw' : wantedE all o env = false := by simpa using hw
      exact go _ _ undef H h (fun h0 => absurd h0 hw) (fun _ => ⟨rfl, rfl⟩) (fun x hx => hx) (fun x hx => hx) (fun h0 => absurd h0 hw) (fun _ h0 => absurd h0 hw) (fun h0 => absurd h0 hw) (fun h0 => absurd h0 hw)

end Go.Eng

set_option linter.unusedVariables false
namespace Go.Eng
open Go

def restr (m : Mp) (n : Nat) : Mp := fun b => if b < n then m b else none
theorem restr_low (m : Mp) (n : Nat) : MLow (restr m n) n := fun b p h => by
  unfold restr at h
  split at h
  · assumption
  · cases h
theorem restr_le (m : Mp) (n : Nat) : MLe (restr m n) m := fun b p h => by
  unfold restr at h
  split at h
  · exact h
  · cases h
theorem restr_mono {m m' : Mp} (hm : MLe m m') {n n' : Nat} (hn : n ≤ n') : MLe (restr m n) (restr m' n') := fun b p h => by
  unfold restr at h ⊢
  split at h
  · rename_i hb; rw [if_pos (by omega)]; exact hm b p h
  · cases h
theorem restr_of_low {m : Mp} {n : Nat} (h : MLow m n) : restr m n = m := by
  funext b
  unfold restr
  split
  · rfl
  · cases hb : m b with
    | none => rfl
    | some p => exact absurd (h b p hb) ‹_›

inductive Loc (n : Nat) : Value → Prop where
  | flat {v : Value} (h : flat1 v = true) : Loc n v
  | ptr {b o : Nat} (h : b < n) : Loc n (.pointer (some ⟨b, o, none⟩))
  | slc {b o len cap : Nat} {sp : Option Nat} (h : b < n) : Loc n (.slice (some ⟨b, o, sp⟩) len cap)
  | mapv {b : Nat} (h : b < n) : Loc n (.map (some b))
  | junk : Loc n junkV
  | func {f : FuncId} {a b : Array Value} (h1 : ∀ (i : Nat) v, a.toList[i]? = some v → Loc n v) (h2 : ∀ (i : Nat) v, b.toList[i]? = some v → Loc n v) : Loc n (.func (.func f) a b)
  | agg {a : Array Value} (h1 : ∀ (i : Nat) v, a.toList[i]? = some v → Loc n v) : Loc n (.agg a)
  | tuple {a : Array Value} (h1 : ∀ (i : Nat) v, a.toList[i]? = some v → Loc n v) : Loc n (.tuple a)
theorem Loc.mono {n n' : Nat} (hn : n ≤ n') {v : Value} (h : Loc n v) : Loc n' v := by
  induction h with
  | flat h => exact .flat h
  | ptr h => exact .ptr (by omega)
  | slc h => exact .slc (by omega)
  | mapv h => exact .mapv (by omega)
  | junk => exact .junk
  | func h1 h2 ih1 ih2 => exact .func ih1 ih2
  | agg h1 ih => exact .agg ih
  | tuple h1 ih => exact .tuple ih
theorem get_both {l l' : List Value} (h : l.length = l'.length) {i : Nat} {v : Value} (hv : l[i]? = some v) : ∃ v', l'[i]? = some v' := by
  have hi : i < l.length := (List.getElem?_eq_some_iff.1 hv).1
  exact ⟨l'[i]'(h ▸ hi), List.getElem?_eq_getElem _⟩
theorem VRel.loc {m : Mp} {n : Nat} (hm : MLow m n) {v v' : Value} (h : VRel m v v') : Loc n v := by
  induction h with
  | flat h => exact .flat h
  | ptr h => exact .ptr (hm _ _ h)
  | slc h h1 h2 h3 => exact .slc (hm _ _ h)
  | slx h h3 => exact .slc (hm _ _ h)
  | sl0 h => exact .slc (hm _ _ h)
  | mapv h => exact .mapv (hm _ _ h)
  | junk => exact .junk
  | func ha hb h1 h2 ih1 ih2 => exact .func (fun i v hv => by obtain ⟨v', hv'⟩ := get_both ha hv; exact ih1 i v v' hv hv') (fun i v hv => by obtain ⟨v', hv'⟩ := get_both hb hv; exact ih2 i v v' hv hv')
  | agg ha h1 ih => exact .agg fun i v hv => by obtain ⟨v', hv'⟩ := get_both ha hv; exact ih i v v' hv hv'
  | tuple ha h1 ih => exact .tuple fun i v hv => by obtain ⟨v', hv'⟩ := get_both ha hv; exact ih i v v' hv hv'
theorem VRel.restr {m : Mp} {n : Nat} {v v' : Value} (h : VRel m v v') (hl : Loc n v) : VRel (Eng.restr m n) v v' := by
  have e : ∀ {b : Nat} {p : Pl}, b < n → m b = some p → Eng.restr m n b = some p := fun {b p} hb hp => by unfold Eng.restr; rw [if_pos hb]; exact hp
  induction h with
  | flat h => exact .flat h
  | ptr h =>
    cases hl with
    | flat hf => simp [flat1] at hf
    | ptr hb => exact .ptr (e hb h)
  | slc h h1 h2 h3 =>
    cases hl with
    | flat hf => simp [flat1] at hf
    | slc hb => exact .slc (e hb h) h1 h2 h3
  | slx h h3 =>
    cases hl with
    | flat hf => simp [flat1] at hf
    | slc hb => exact .slx (e hb h) h3
  | sl0 h =>
    cases hl with
    | flat hf => simp [flat1] at hf
    | slc hb => exact .sl0 (e hb h)
  | mapv h =>
    cases hl with
    | flat hf => simp [flat1] at hf
    | mapv hb => exact .mapv (e hb h)
  | junk => exact .junk
  | func ha hb h1 h2 ih1 ih2 =>
    cases hl with
    | flat hf => simp [flat1] at hf
    | func q1 q2 => exact .func ha hb (fun i v v' hv hv' => ih1 i v v' hv hv' (q1 i v hv)) (fun i v v' hv hv' => ih2 i v v' hv hv' (q2 i v hv))
  | agg ha h1 ih =>
    cases hl with
    | flat hf => simp [flat1] at hf
    | agg q1 => exact .agg ha fun i v v' hv hv' => ih i v v' hv hv' (q1 i v hv)
  | tuple ha h1 ih =>
    cases hl with
    | flat hf => simp [flat1] at hf
    | tuple q1 => exact .tuple ha fun i v v' hv hv' => ih i v v' hv hv' (q1 i v hv)

def Ob.vals : Ob → List Value
  | .iter _ _ => []
  | .map es _ => es.map (·.val)
def Blk.vals (b : Blk) : List Value := b.cells ++ (b.ob.o.map Ob.vals).getD []
theorem Blk.vals_cells {b : Blk} {j : Nat} {y : Value} (h : b.cells[j]? = some y) : b.vals[j]? = some y := by
  unfold Blk.vals
  rw [List.getElem?_append_left (List.getElem?_eq_some_iff.1 h).1]
  exact h
theorem Blk.vals_plain {b : Blk} (h : b.plain = true) : b.vals = b.cells := by
  simp only [Blk.plain, Option.isNone_iff_eq_none] at h
  simp [Blk.vals, h]
theorem obj_vals {o : Ob} : (obj o).vals = o.vals := rfl
theorem Lies.loc {m : Mp} {n : Nat} {w : World} {blk : Blk} {p : Pl} (hm : MLow m n) (h : Lies m w blk p) (j : Nat) (y : Value) (hy : blk.vals[j]? = some y) : Loc n y := by
  rcases h with ⟨h0, cs, e, fr, _, _, h3, _⟩ | ⟨o, x, rfl, _, _, _, h5⟩
  · rw [Blk.vals_plain h0] at hy
    obtain ⟨v', _, q⟩ := h3 j y hy
    exact q.loc hm
  · rw [obj_vals] at hy
    cases o with
    | iter s pos => simp [Ob.vals] at hy
    | map es clock =>
      have hy' : (es.map (·.val))[j]? = some y := hy
      rw [List.getElem?_map] at hy'
      simp only [Option.map_eq_some_iff] at hy'
      obtain ⟨e, he, rfl⟩ := hy'
      obtain ⟨es', _, _, h⟩ := h5
      obtain ⟨_, v', _, q⟩ := h j e he
      exact q.loc hm
theorem Lies.restr {m : Mp} {n : Nat} {w : World} {blk : Blk} {p : Pl} (h : Lies m w blk p) (hl : ∀ (j : Nat) y, blk.vals[j]? = some y → Loc n y) : Lies (Eng.restr m n) w blk p := by
  rcases h with ⟨h0, cs, e, fr, h1, h2, h3, h4⟩ | ⟨o, x, rfl, h1, h2, h3, h5⟩
  · rw [Blk.vals_plain h0] at hl
    exact .inl ⟨h0, cs, e, fr, h1, h2, fun i v hv => by obtain ⟨v', q1, q2⟩ := h3 i v hv; exact ⟨v', q1, q2.restr (hl i v hv)⟩, h4⟩
  · refine .inr ⟨o, x, rfl, h1, h2, h3, ?_⟩
    cases o with
    | iter s pos => exact h5
    | map es clock =>
      obtain ⟨es', q1, q2, q3⟩ := h5
      refine ⟨es', q1, q2, fun i e he => ?_⟩
      obtain ⟨k1, v', k2, k3⟩ := q3 i e he
      refine ⟨k1, v', k2, k3.restr (hl i e.val ?_)⟩
      rw [obj_vals]
      show (es.map (·.val))[i]? = some e.val
      rw [List.getElem?_map, he]; rfl

theorem mergeAct {m m' : Mp} {V H H' : Heap} {w w' : World} (hr : HRel m V w) (agree : ∀ b p, b < H.n → m b = some p → V.get b = H.get b) (gap : ∀ b, H.n ≤ b → b < H'.n → m b = none) (S : Step (Eng.restr m H.n) H w m' H' w') :
    ∃ mm VV, HRel mm VV w' ∧ MLe m mm ∧ MLe m' mm ∧ (∀ b, b < H.n → mm b = m b) ∧ (∀ b, b < H.n ∨ H'.n ≤ b → mm b = m b) ∧ (∀ b, b < H'.n → VV.get b = H'.get b) ∧ (∀ b, H'.n ≤ b → VV.get b = V.get b) ∧ (∀ b, b < H'.n → mm b = m' b) ∧ V.n ≤ VV.n ∧ H'.n ≤ VV.n := by
  have hlow' : MLow m' H'.n := S.keepLow (restr_low _ _)
  have hext : ∀ b, b < H.n → m' b = m b := fun b hb => by rw [S.ext b hb]; unfold Eng.restr; rw [if_pos hb]
  have hnn := S.hn
  have hmm : ∀ b, (if b < H.n then m b else if b < H'.n then m' b else m b) = (if b < H'.n then m' b else m b) := fun b => by
    by_cases h1 : b < H.n
    · rw [if_pos h1, if_pos (by omega), hext b h1]
    · rw [if_neg h1]
  have hle' : MLe m' (fun b => if b < H'.n then m' b else m b) := fun b p hb => by simp only [if_pos (hlow' b p hb)]; exact hb
  have hle : MLe m (fun b => if b < H'.n then m' b else m b) := fun b p hb => by
    by_cases h1 : b < H'.n
    · simp only [if_pos h1]
      by_cases h2 : b < H.n
      · rw [hext b h2]; exact hb
      · rw [gap b (by omega) h1] at hb; cases hb
    · simp only [if_neg h1]; exact hb
  have hown : ∀ b1 k1 p1 b2 k2 p2, H'.get b1 = some k1 → k1.own = true → m' b1 = some p1 → H'.n ≤ b2 → V.get b2 = some k2 → m b2 = some p2 → p1.blk ≠ p2.blk := fun b1 k1 p1 b2 k2 p2 e1 o1 m1 hb2 e2 m2 heq => by
    have hlt : p1.blk < w.heap.size := by rw [heq]; exact (hr.blk b2 k2 p2 e2 m2).lt
    obtain ⟨b0, k0, p0, q1, q2, q3, q4⟩ := S.own b1 k1 p1 e1 o1 m1 hlt
    have hb0 : b0 < H.n := restr_low _ _ b0 p0 q3
    have hm0 := restr_le _ _ b0 p0 q3
    exact hr.inj b0 b2 k0 k2 p0 p2 (by omega) ((agree b0 p0 hb0 hm0).trans q1) q2 e2 hm0 m2 (q4.trans heq)
  refine ⟨fun b => if b < H'.n then m' b else m b, ⟨max V.n H'.n, fun b => if b < H'.n then H'.get b else V.get b⟩, ⟨?_, ?_, ?_, ?_, ?_⟩, hle, hle', ?_, ?_, ?_, ?_, ?_, by simp only; omega, by simp only; omega⟩
  · intro b blk hb
    simp only at hb ⊢
    split at hb
    · omega
    · have := hr.low b blk hb; omega
  · intro b blk p hb hp
    simp only at hb hp
    by_cases h1 : b < H'.n
    · rw [if_pos h1] at hb hp
      exact (S.rel.blk b blk p hb hp).mono hle'
    · rw [if_neg h1] at hb hp
      refine ((hr.blk b blk p hb hp).mono hle).at ?_
      rw [S.frame p.blk (hr.blk b blk p hb hp).lt fun b1 k1 p1 e1 o1 m1 => ?_]
      · have hb1 := restr_low _ _ b1 p1 m1
        have hm1 := restr_le _ _ b1 p1 m1
        exact hr.inj b1 b k1 blk p1 p (by omega) ((agree b1 p1 hb1 hm1).trans e1) o1 hb hm1 hp
  · intro b1 b2 k1 k2 p1 p2 hne e1 o1 e2 m1 m2
    simp only at e1 e2 m1 m2
    by_cases h1 : b1 < H'.n
    · rw [if_pos h1] at e1 m1
      by_cases h2 : b2 < H'.n
      · rw [if_pos h2] at e2 m2
        exact S.rel.inj b1 b2 k1 k2 p1 p2 hne e1 o1 e2 m1 m2
      · rw [if_neg h2] at e2 m2
        exact hown b1 k1 p1 b2 k2 p2 e1 o1 m1 (by omega) e2 m2
    · rw [if_neg h1] at e1 m1
      by_cases h2 : b2 < H'.n
      · rw [if_pos h2] at e2 m2
        cases o2 : k2.own with
        | true => exact Ne.symm (hown b2 k2 p2 b1 k1 p1 e2 o2 m2 (by omega) e1 m1)
        | false =>
          by_cases h3 : b2 < H.n
          · have hH := S.back b2 k2 h3 e2 o2
            rw [hext b2 h3] at m2
            exact hr.inj b1 b2 k1 k2 p1 p2 hne e1 o1 ((agree b2 p2 h3 m2).trans hH) m1 m2
          · have := S.fresh b2 k2 (by omega) e2
            rw [o2] at this; cases this
      · rw [if_neg h2] at e2 m2
        exact hr.inj b1 b2 k1 k2 p1 p2 hne e1 o1 e2 m1 m2
  · intro b blk hb
    simp only at hb
    split at hb
    · exact S.rel.one b blk hb
    · exact hr.one b blk hb
  · intro b blk p hb ho hp
    simp only at hb hp
    by_cases h1 : b < H'.n
    · rw [if_pos h1] at hb hp; exact S.rel.froz b blk p hb ho hp
    · rw [if_neg h1] at hb hp; exact hr.froz b blk p hb ho hp
  · intro b hb; simp only; rw [if_pos (by omega), hext b hb]
  · intro b hb
    simp only
    rcases hb with hb | hb
    · rw [if_pos (by omega), hext b hb]
    · rw [if_neg (by omega)]
  · intro b hb; simp only [if_pos hb]
  · intro b hb; simp only [if_neg (show ¬ b < H'.n by omega)]
  · intro b hb; simp only [if_pos hb]

theorem mergeNew {m m' : Mp} {V : Heap} {w w' : World} {l : Nat} {blk : Blk} (hr : HRel m V w) (gap : m l = none) (S : Step (Eng.restr m l) ⟨l, fun _ => none⟩ w m' (Heap.push ⟨l, fun _ => none⟩ blk) w') :
    ∃ mm VV, HRel mm VV w' ∧ MLe m mm ∧ MLe m' mm ∧ (∀ b, b ≠ l → mm b = m b) ∧ VV.get l = some blk ∧ (∀ b, b ≠ l → VV.get b = V.get b) ∧ mm l = m' l ∧ V.n ≤ VV.n ∧ l < VV.n ∧ (∀ c, c < w.heap.size → w'.heap[c]? = w.heap[c]?) ∧ (∀ p, mm l = some p → w.heap.size ≤ p.blk) := by
  have hlow' : MLow m' (l + 1) := S.keepLow (restr_low _ _)
  have hext : ∀ b, b < l → m' b = m b := fun b hb => by rw [S.ext b hb]; unfold Eng.restr; rw [if_pos hb]
  have hfr : ∀ c, c < w.heap.size → w'.heap[c]? = w.heap[c]? := fun c hc => S.frame c hc fun b k p h1 => by cases h1
  have hget : (Heap.push ⟨l, fun _ => none⟩ blk).get l = some blk := by simp [Heap.push]
  have hown : blk.own = true := S.fresh l blk (Nat.le_refl _) hget
  have hbig : ∀ p, m' l = some p → w.heap.size ≤ p.blk := fun p hp => by
    rcases Nat.lt_or_ge p.blk w.heap.size with h1 | h1
    · obtain ⟨b0, k0, p0, q1, _⟩ := S.own l blk p hget hown hp h1
      cases q1
    · exact h1
  have hle' : MLe m' (fun b => if b = l then m' l else m b) := fun b p hb => by
    simp only
    split
    · rename_i he; rw [← he]; exact hb
    · rename_i he
      have := hlow' b p hb
      rw [← hext b (by omega)]; exact hb
  have hle : MLe m (fun b => if b = l then m' l else m b) := fun b p hb => by
    simp only
    split
    · rename_i he; subst he; rw [gap] at hb; cases hb
    · exact hb
  have old : ∀ b k p, b ≠ l → V.get b = some k → m b = some p → p.blk < w.heap.size := fun b k p _ hb hp => by
    exact (hr.blk b k p hb hp).lt
  refine ⟨fun b => if b = l then m' l else m b, ⟨max V.n (l + 1), fun b => if b = l then some blk else V.get b⟩, ⟨?_, ?_, ?_, ?_, ?_⟩, hle, hle', ?_, ?_, ?_, ?_, by simp only; omega, by simp only; omega, hfr, ?_⟩
  · intro b k hb
    simp only at hb ⊢
    split at hb
    · omega
    · have := hr.low b k hb; omega
  · intro b k p hb hp
    simp only at hb hp
    by_cases h1 : b = l
    · subst h1
      rw [if_pos rfl] at hb hp
      injection hb with hb; subst hb
      exact (S.rel.blk b blk p hget hp).mono hle'
    · rw [if_neg h1] at hb hp
      exact ((hr.blk b k p hb hp).mono hle).at (hfr _ (hr.blk b k p hb hp).lt)
  · intro b1 b2 k1 k2 p1 p2 hne e1 o1 e2 m1 m2
    simp only at e1 e2 m1 m2
    by_cases h1 : b1 = l
    · have h2 : b2 ≠ l := by omega
      rw [if_pos h1] at m1
      rw [if_neg h2] at e2 m2
      have := hbig p1 m1
      have := old b2 k2 p2 h2 e2 m2
      omega
    · rw [if_neg h1] at e1 m1
      by_cases h2 : b2 = l
      · rw [if_pos h2] at m2
        have := hbig p2 m2
        have := old b1 k1 p1 h1 e1 m1
        omega
      · rw [if_neg h2] at e2 m2
        exact hr.inj b1 b2 k1 k2 p1 p2 hne e1 o1 e2 m1 m2
  · intro b k hb
    simp only at hb
    split at hb
    · injection hb with hb; subst hb; exact S.rel.one l blk hget
    · exact hr.one b k hb
  · intro b k p hb ho hp
    simp only at hb hp
    by_cases h1 : b = l
    · rw [if_pos h1] at hb; injection hb with hb; subst hb; rw [hown] at ho; cases ho
    · rw [if_neg h1] at hb hp; exact hr.froz b k p hb ho hp
  · intro b hb; simp only [if_neg hb]
  · simp
  · intro b hb; simp only [if_neg hb]
  · simp
  · intro p hp; simp only [if_true] at hp; exact hbig p hp

end Go.Eng

set_option linter.unusedVariables false
namespace Go.Eng
open Go

structure Ctx (P : Program) (C : CallF) (N : Nat) (all : List Oper) (e : Nat → Env) (h : Nat → Heap) (v : Nat → Value) : Prop where
  T : Trc P C N all (befs all []) 0 all.length e h v [] []
  dok : drawOk P N all (befs all []) = true
  low : Low (h 0)
  mono : CMono C

section
variable {P : Program} {C : CallF} {N : Nat} {all : List Oper} {e : Nat → Env} {h : Nat → Heap} {v : Nat → Value}
theorem Ctx.parts (X : Ctx P C N all e h v) :
    (∀ (j : Nat) (o : Oper) (d : Tmp), all[j]? = some o → o.dst = some d → d < N) ∧
    (∀ (j : Nat) (o : Oper), all[j]? = some o → ∀ x ∈ o.after, Region.binds .any x = true → x.on < j) ∧
    (∀ (i : Nat) (o : Oper) (j : Nat) (want : Bool), all[i]? = some o → o.guard = some (j, want) → j < i ∧ ((befs all []).getD i 0).testBit j = true) ∧
    (∀ (i j : Nat) (o q : Oper), all[i]? = some o → all[j]? = some q → i ≠ j → kindOf P o.op = .act → kindOf P q.op = .act → ordered (befs all []) i j = true) ∧
    (∀ (i j : Nat) (o q : Oper) (d : Tmp), all[i]? = some o → all[j]? = some q → i ≠ j → o.dst = some d → d ∈ names all q → ordered (befs all []) i j = true) := by
  have := X.dok
  unfold drawOk at this
  simp only [Bool.and_eq_true, List.all_eq_true] at this
  obtain ⟨⟨⟨⟨h1, h2⟩, h3⟩, h4⟩, h5⟩ := this
  have pair : ∀ i j o q, all[i]? = some o → all[j]? = some q → i ≠ j → (isAct P o = true → isAct P q = true → ordered (befs all []) i j = true) ∧ (∀ d, o.dst = some d → d ∈ names all q → ordered (befs all []) i j = true) := fun i j o q hi hj hne => by
    have := h5 (o, i) (List.mk_mem_zipIdx_iff_getElem?.2 hi) (q, j) (List.mk_mem_zipIdx_iff_getElem?.2 hj)
    simp only [Bool.or_eq_true, beq_iff_eq, Bool.and_eq_true] at this
    rcases this with this | ⟨q1, q2⟩
    · exact absurd this hne
    · refine ⟨fun a b => ?_, fun d hd hm => ?_⟩
      · rcases q1 with q1 | q1
        · simp [a, b] at q1
        · exact q1
      · rcases q2 with q2 | q2
        · rw [hd] at q2; simp at q2; exact absurd hm q2
        · exact q2
  refine ⟨?_, ?_, ?_, ?_, ?_⟩
  · intro j o d hj hd
    have := h1 o (List.mem_of_getElem? hj)
    rw [hd] at this
    simpa using this
  · intro j o hj x hx hb
    have := h2 (o, j) (List.mk_mem_zipIdx_iff_getElem?.2 hj)
    simp only [Array.all_eq_true_iff_forall_mem] at this
    have := this x hx
    simpa [hb] using this
  · intro i o j want hi hg
    have := h4 (o, i) (List.mk_mem_zipIdx_iff_getElem?.2 hi)
    simp only [hg, Bool.and_eq_true, decide_eq_true_eq] at this
    exact this
  · intro i j o q hi hj hne ka kb
    exact (pair i j o q hi hj hne).1 (by simp [isAct, ka]) (by simp [isAct, kb])
  · intro i j o q d hi hj hne hd hm
    exact (pair i j o q hi hj hne).2 d hd hm
theorem Ctx.mono1 (X : Ctx P C N all e h v) {i : Nat} (hi : i < all.length) : Mono (h i) (h (i + 1)) := by
  have ho := List.getElem?_eq_getElem hi
  by_cases hw : wantedE all (all[i]) (e i) = true
  · exact aop_mono X.mono (X.T.yes i _ (Nat.zero_le _) hi ho hw)
  · have := (X.T.no i _ (Nat.zero_le _) hi ho (by simpa using hw)).2
    rw [this]; exact Mono.refl _
theorem Ctx.monoN (X : Ctx P C N all e h v) {i j : Nat} (hij : i ≤ j) (hj : j ≤ all.length) : Mono (h i) (h j) := by
  obtain ⟨d, rfl⟩ := Nat.exists_eq_add_of_le hij
  induction d with
  | zero => exact Mono.refl _
  | succ d ih => exact (ih (by omega) (by omega)).trans (X.mono1 (by omega))
theorem Ctx.lowN (X : Ctx P C N all e h v) {i : Nat} (hi : i ≤ all.length) : Low (h i) := (X.monoN (Nat.zero_le _) hi).2 X.low
theorem Ctx.quiet (X : Ctx P C N all e h v) {i : Nat} {o : Oper} (hi : i < all.length) (ho : all[i]? = some o) (hq : ¬ (kindOf P o.op = .act ∧ wantedE all o (e i) = true)) {b : Nat} (hb : b < (h i).n) : (h (i + 1)).get b = (h i).get b := by
  by_cases hw : wantedE all o (e i) = true
  · have hy := X.T.yes i o (Nat.zero_le _) hi ho hw
    cases hk : kindOf P o.op with
    | pure => rw [(kind_pure hk hy).1]
    | read => rw [(kind_read hk hy).1]
    | make =>
      obtain ⟨blk, hp, _⟩ := kind_make hk hy
      rw [hp]
      simp only [Heap.push]
      rw [if_neg (by omega)]
    | act => exact absurd ⟨hk, hw⟩ hq
  · rw [(X.T.no i o (Nat.zero_le _) hi ho (by simpa using hw)).2]
theorem Ctx.stable (X : Ctx P C N all e h v) {x y b : Nat} (hxy : x ≤ y) (hy : y ≤ all.length) (hb : b < (h x).n)
    (hs : ∀ i o, x ≤ i → i < y → all[i]? = some o → kindOf P o.op = .act → wantedE all o (e i) = true → (h (i + 1)).get b = (h i).get b) : (h y).get b = (h x).get b := by
  obtain ⟨d, rfl⟩ := Nat.exists_eq_add_of_le hxy
  induction d with
  | zero => rfl
  | succ d ih =>
    have hlt : x + d < all.length := by omega
    have ho := List.getElem?_eq_getElem hlt
    have hbd : b < (h (x + d)).n := Nat.lt_of_lt_of_le hb (X.monoN (Nat.le_add_right _ _) (by omega)).1
    rw [show x + (d + 1) = x + d + 1 by omega, ← ih (by omega) (by omega) (fun i o h1 h2 => hs i o h1 (by omega))]
    by_cases hq : kindOf P (all[x + d]).op = .act ∧ wantedE all (all[x + d]) (e (x + d)) = true
    · exact hs (x + d) _ (by omega) (by omega) ho hq.1 hq.2
    · exact X.quiet hlt ho hq hbd
theorem Ctx.envStay (X : Ctx P C N all e h v) {x y : Nat} {t : Tmp} (hxy : x ≤ y) (hy : y ≤ all.length) (hn : ∀ i o, x ≤ i → i < y → all[i]? = some o → o.dst ≠ some t) : e y t = e x t := by
  obtain ⟨d, rfl⟩ := Nat.exists_eq_add_of_le hxy
  induction d with
  | zero => rfl
  | succ d ih =>
    have hlt : x + d < all.length := by omega
    have ho := List.getElem?_eq_getElem hlt
    rw [show x + (d + 1) = x + d + 1 by omega, X.T.put (x + d) _ (Nat.zero_le _) hlt ho, ← ih (by omega) (by omega) (fun i o h1 h2 => hn i o h1 (by omega))]
    have := hn (x + d) _ (by omega) (by omega) ho
    unfold putE
    cases hd : (all[x + d]).dst with
    | none => rfl
    | some d' =>
      simp only
      by_cases hN : d' < N
      · rw [if_pos hN, if_neg (fun he => this (by rw [hd, he]))]
      · rw [if_neg hN]
theorem Ctx.envPut (X : Ctx P C N all e h v) {i : Nat} {o : Oper} {t : Tmp} (hi : i < all.length) (ho : all[i]? = some o) (hd : o.dst = some t) : e (i + 1) t = v i := by
  rw [X.T.put i o (Nat.zero_le _) hi ho]
  have := X.parts.1 i o t ho hd
  simp [putE, hd, this]
end

structure Inv (P : Program) (N : Nat) (all : List Oper) (e : Nat → Env) (h : Nat → Heap) (m0 : Mp) (w0 : World) (df : List Deferred) (D : Nat → Prop) (nx : Nat) (env : Env) (a : Act) (m : Mp) (V : Heap) (w : World) : Prop where
  cl : ∀ j o, all[j]? = some o → D j → ∀ x ∈ o.after, Region.binds .any x = true → D x.on
  nxle : nx ≤ all.length
  ahead : ∀ i o, all[i]? = some o → kindOf P o.op = .act → i < nx → D i
  behind : ∀ i o, all[i]? = some o → kindOf P o.op = .act → nx ≤ i → ¬ D i
  rel : HRel m V w
  ml : MLow m V.n
  x : ∀ b, b < (h 0).n → m b = m0 b
  mp : ∀ b p, m b = some p → b < (h 0).n ∨ ∃ i, D i ∧ i < all.length ∧ (h i).n ≤ b ∧ b < (h (i + 1)).n
  c1 : ∀ b p, m b = some p → b < (h nx).n → V.get b = (h nx).get b
  c2 : ∀ b p, m b = some p → (h nx).n ≤ b → ∀ i, i < all.length → (h i).n ≤ b → b < (h (i + 1)).n → V.get b = (h (i + 1)).get b
  l1 : ∀ k, k ≤ nx → ∀ b p blk, m b = some p → b < (h k).n → (h k).get b = some blk → ∀ (j : Nat) y, blk.vals[j]? = some y → Loc (h k).n y
  l2 : ∀ b p blk, m b = some p → (h nx).n ≤ b → V.get b = some blk → ∀ i, i < all.length → (h i).n ≤ b → b < (h (i + 1)).n → ∀ (j : Nat) y, blk.vals[j]? = some y → Loc (h (i + 1)).n y
  one : ∀ b blk, (h nx).get b = some blk → blk.cells.all oneC = true
  fz : ∀ b blk, b < (h 0).n → blk.own = false → ((h 0).get b = some blk ↔ (h nx).get b = some blk)
  fr : ∀ b blk, (h 0).n ≤ b → (h nx).get b = some blk → blk.own = true
  en : ∀ j o t, all[j]? = some o → ¬ D j → t ∈ names all o → (∀ k q, k < j → all[k]? = some q → q.dst = some t → D k) → env t = e j t ∧ VRel (restr m (h j).n) (env t) (a.tmps.getD t undef)
  enF : ∀ t, (∀ k q, all[k]? = some q → q.dst = some t → D k) → env t = e all.length t ∧ VRel m (env t) (a.tmps.getD t undef)
  size : w0.heap.size ≤ w.heap.size
  frame : ∀ c, c < w0.heap.size → (∀ b blk p, (h 0).get b = some blk → blk.own = true → m0 b = some p → p.blk ≠ c) → w.heap[c]? = w0.heap[c]?
  own : ∀ b blk p, V.get b = some blk → blk.own = true → m b = some p → p.blk < w0.heap.size → ∃ b0 blk0 p0, (h 0).get b0 = some blk0 ∧ blk0.own = true ∧ m0 b0 = some p0 ∧ p0.blk = p.blk
  os : w.os = w0.os
  tape : w.tape = w0.tape
  output : w.output = w0.output
  asz : a.tmps.size = N
  adf : a.defers = df

section
variable {P : Program} {C : CallF} {N : Nat} {all : List Oper} {e : Nat → Env} {h : Nat → Heap} {v : Nat → Value} {m0 : Mp} {w0 : World} {df : List Deferred} {D : Nat → Prop} {nx : Nat} {env : Env} {a : Act} {m : Mp} {V : Heap} {w : World}

theorem Inv.move (X : Ctx P C N all e h v) (I : Inv P N all e h m0 w0 df D nx env a m V w) {nx' : Nat} (hle : nx ≤ nx') (hn : nx' ≤ all.length) (hno : ∀ i o, nx ≤ i → i < nx' → all[i]? = some o → ¬ (kindOf P o.op = .act ∧ wantedE all o (e i) = true))
    (h1 : ∀ i o, all[i]? = some o → kindOf P o.op = .act → i < nx' → D i) (h2 : ∀ i o, all[i]? = some o → kindOf P o.op = .act → nx' ≤ i → ¬ D i) : Inv P N all e h m0 w0 df D nx' env a m V w := by
  have hst : ∀ b, b < (h nx).n → (h nx').get b = (h nx).get b := fun b hb => X.stable hle hn hb fun i o q1 q2 q3 q4 q5 => absurd ⟨q4, q5⟩ (hno i o q1 q2 q3)
  have hmono := (X.monoN hle hn).1
  have h0 := (X.monoN (Nat.zero_le nx) I.nxle).1
  have mk : ∀ b, (h nx).n ≤ b → b < (h nx').n → ∃ i, nx ≤ i ∧ i < nx' ∧ (h i).n ≤ b ∧ b < (h (i + 1)).n := by
    intro b hb1 hb2
    have key : ∀ d, nx + d ≤ nx' → b < (h (nx + d)).n → ∃ i, nx ≤ i ∧ i < nx' ∧ (h i).n ≤ b ∧ b < (h (i + 1)).n := by
      intro d
      induction d with
      | zero => intro _ hb; simp only [Nat.add_zero] at hb; omega
      | succ d ih =>
        intro hd hb
        by_cases hc : b < (h (nx + d)).n
        · exact ih (by omega) hc
        · exact ⟨nx + d, by omega, by omega, by omega, hb⟩
    exact key (nx' - nx) (by omega) (by rw [Nat.add_sub_cancel' hle]; exact hb2)
  have stab2 : ∀ i b, nx ≤ i → i < nx' → b < (h (i + 1)).n → (h nx').get b = (h (i + 1)).get b := fun i b q1 q2 hb => X.stable (by omega) hn hb fun j o r1 r2 r3 r4 r5 => absurd ⟨r4, r5⟩ (hno j o (by omega) r2 r3)
  have made : ∀ i b blk, nx ≤ i → i < nx' → (h i).n ≤ b → b < (h (i + 1)).n → (h (i + 1)).get b = some blk → blk.own = true ∧ blk.cells.all oneC = true := fun i b blk q1 q2 q3 q4 q5 => by
    have hlt : i < all.length := by omega
    have ho := List.getElem?_eq_getElem hlt
    by_cases hw : wantedE all (all[i]) (e i) = true
    · have hy := X.T.yes i _ (Nat.zero_le _) hlt ho hw
      cases hk : kindOf P (all[i]).op with
      | pure => rw [(kind_pure hk hy).1] at q4; omega
      | read => rw [(kind_read hk hy).1] at q4; omega
      | make =>
        obtain ⟨blk', hp, ho1, hH⟩ := kind_make hk hy
        rw [hp] at q4 q5
        simp only [Heap.push] at q4 q5
        rw [if_pos (by omega)] at q5
        injection q5 with q5; subst q5
        exact ⟨ho1.2, ho1.1⟩
      | act => exact absurd ⟨hk, hw⟩ (hno i _ q1 q2 ho)
    · rw [(X.T.no i _ (Nat.zero_le _) hlt ho (by simpa using hw)).2] at q4; omega
  refine { I with nxle := hn, ahead := h1, behind := h2, c1 := ?_, c2 := ?_, l1 := ?_, l2 := ?_, one := ?_, fz := ?_, fr := ?_ }
  · intro b p hp hb
    by_cases hc : b < (h nx).n
    · rw [I.c1 b p hp hc, hst b hc]
    · obtain ⟨i, q1, q2, q3, q4⟩ := mk b (by omega) hb
      rw [I.c2 b p hp (by omega) i (by omega) q3 q4, stab2 i b q1 q2 q4]
  · intro b p hp hb i hi q1 q2
    exact I.c2 b p hp (by omega) i hi q1 q2
  · intro k hk b p blk hp hb hv j y hy
    by_cases hkn : k ≤ nx
    · exact I.l1 k hkn b p blk hp hb hv j y hy
    · have hmk := (X.monoN (show nx ≤ k by omega) (by omega)).1
      by_cases hc : b < (h nx).n
      · rw [X.stable (show nx ≤ k by omega) (by omega) hc fun i o q1 q2 q3 q4 q5 => absurd ⟨q4, q5⟩ (hno i o q1 (by omega) q3)] at hv
        exact (I.l1 nx (Nat.le_refl _) b p blk hp hc hv j y hy).mono hmk
      · have hbn : b < (h nx').n := Nat.lt_of_lt_of_le hb (X.monoN hk hn).1
        obtain ⟨i, q1, q2, q3, q4⟩ := mk b (by omega) hbn
        have hik : i + 1 ≤ k := by
          rcases Nat.lt_or_ge i k with h1 | h1
          · exact h1
          · have := (X.monoN h1 (by omega)).1; omega
        rw [X.stable hik (by omega) q4 fun j o r1 r2 r3 r4 r5 => absurd ⟨r4, r5⟩ (hno j o (by omega) (by omega) r3), ← I.c2 b p hp (by omega) i (by omega) q3 q4] at hv
        exact (I.l2 b p blk hp (by omega) hv i (by omega) q3 q4 j y hy).mono (X.monoN hik (by omega)).1
  · intro b p blk hp hb hv i hi q1 q2 j y hy
    exact I.l2 b p blk hp (by omega) hv i hi q1 q2 j y hy
  · intro b blk hb
    have hlt := X.lowN hn b blk hb
    by_cases hc : b < (h nx).n
    · rw [hst b hc] at hb; exact I.one b blk hb
    · obtain ⟨i, q1, q2, q3, q4⟩ := mk b (by omega) hlt
      rw [stab2 i b q1 q2 q4] at hb
      exact (made i b blk q1 q2 q3 q4 hb).2
  · intro b blk hb ho
    rw [I.fz b blk hb ho, hst b (by omega)]
  · intro b blk hb hg
    have hlt := X.lowN hn b blk hg
    by_cases hc : b < (h nx).n
    · rw [hst b hc] at hg; exact I.fr b blk hb hg
    · obtain ⟨i, q1, q2, q3, q4⟩ := mk b (by omega) hlt
      rw [stab2 i b q1 q2 q4] at hg
      exact (made i b blk q1 q2 q3 q4 hg).1
end

end Go.Eng

set_option linter.unusedVariables false
namespace Go.Eng
open Go

section
variable {P : Program} {gl : Bool} {C : CallF} {N : Nat} {all : List Oper} {e : Nat → Env} {h : Nat → Heap} {v : Nat → Value} {m0 : Mp} {w0 : World} {df : List Deferred} {D : Nat → Prop} {nx : Nat} {env : Env} {a : Act} {m : Mp} {V : Heap} {w : World}

theorem Inv.heap (X : Ctx P C N all e h v) (I : Inv P N all e h m0 w0 df D nx env a m V w) : HRel (restr m (h nx).n) (h nx) w := by
  have hlow := X.lowN I.nxle
  have key : ∀ b blk p, (h nx).get b = some blk → restr m (h nx).n b = some p → b < (h nx).n ∧ m b = some p ∧ V.get b = some blk := fun b blk p hb hp => by
    have hlt := hlow b blk hb
    have hp' := restr_le _ _ b p hp
    exact ⟨hlt, hp', (I.c1 b p hp' hlt).trans hb⟩
  refine ⟨hlow, ?_, ?_, I.one, ?_⟩
  · intro b blk p hb hp
    obtain ⟨k1, k2, k3⟩ := key b blk p hb hp
    exact (I.rel.blk b blk p k3 k2).restr (I.l1 nx (Nat.le_refl _) b p blk k2 k1 hb)
  · intro b b' blk blk' p p' hne hb ho hb' hp hp'
    obtain ⟨_, k2, k3⟩ := key b blk p hb hp
    obtain ⟨_, l2, l3⟩ := key b' blk' p' hb' hp'
    exact I.rel.inj b b' blk blk' p p' hne k3 ho l3 k2 l2
  · intro b blk p hb ho hp
    obtain ⟨_, k2, k3⟩ := key b blk p hb hp
    exact I.rel.froz b blk p k3 ho k2

theorem Inv.waits (X : Ctx P C N all e h v) (I : Inv P N all e h m0 w0 df D nx env a m V w) {i : Nat} {o : Oper} (ho : all[i]? = some o) (hi : ¬ D i) (hrdy : ∀ x ∈ o.after, Region.binds .any x = true → D x.on) :
    (∀ j, ((befs all []).getD i 0).testBit j = true → D j ∧ j < i) ∧ (∀ j q, all[j]? = some q → D j → ((befs all []).getD j 0).testBit i = false) :=
  ⟨fun j hj => ⟨bef_done X.parts.2.1 I.cl i j ho hrdy hj, bef_lt X.parts.2.1 i j ho hj⟩, fun j q hq hD => by
    cases hb : ((befs all []).getD j 0).testBit i with
    | false => rfl
    | true => exact absurd (bef_done X.parts.2.1 I.cl j i hq (I.cl j q hq hD) hb) hi⟩

theorem Inv.looks (X : Ctx P C N all e h v) (I : Inv P N all e h m0 w0 df D nx env a m V w) {i : Nat} {o : Oper} (ho : all[i]? = some o) (hi : ¬ D i) (hrdy : ∀ x ∈ o.after, Region.binds .any x = true → D x.on) {t : Tmp} (ht : t ∈ names all o) :
    env t = e i t ∧ VRel (restr m (h i).n) (env t) (a.tmps.getD t undef) := by
  refine I.en i o t ho hi ht fun k q hk hq hd => ?_
  have hW := I.waits X ho hi hrdy
  have := X.parts.2.2.2.2 k i q o t hq ho (by omega) hd ht
  simp only [ordered, Bool.or_eq_true] at this
  rcases this with h1 | h1
  · exact (hW.1 k h1).1
  · have := bef_lt X.parts.2.1 k i hq h1; omega

theorem Inv.temps (X : Ctx P C N all e h v) (I : Inv P N all e h m0 w0 df D nx env a m V w) {i : Nat} {o : Oper} (ho : all[i]? = some o) (hi : ¬ D i) (hrdy : ∀ x ∈ o.after, Region.binds .any x = true → D x.on)
    {m' : Mp} {v' : Value} (hm : MLe m m') (hv : VRel (restr m' (h (i + 1)).n) (v i) v') :
    (∀ j q t, all[j]? = some q → ¬ (D j ∨ j = i) → t ∈ names all q → (∀ k r, k < j → all[k]? = some r → r.dst = some t → D k ∨ k = i) → putE N env o.dst (v i) t = e j t ∧ VRel (restr m' (h j).n) (putE N env o.dst (v i) t) ((a.put o.dst v').tmps.getD t undef)) ∧
    (∀ t, (∀ k r, all[k]? = some r → r.dst = some t → D k ∨ k = i) → putE N env o.dst (v i) t = e all.length t ∧ VRel m' (putE N env o.dst (v i) t) ((a.put o.dst v').tmps.getD t undef)) := by
  have hil : i < all.length := (List.getElem?_eq_some_iff.1 ho).1
  have hW := I.waits X ho hi hrdy
  have mine : ∀ t, o.dst = some t → putE N env o.dst (v i) t = v i ∧ (a.put o.dst v').tmps.getD t undef = v' := fun t hd => by
    have hN := X.parts.1 i o t ho hd
    refine ⟨by simp [putE, hd, hN], ?_⟩
    simp [Act.put, hd, Array.getD_eq_getD_getElem?, I.asz, hN]
  have other : ∀ t, o.dst ≠ some t → putE N env o.dst (v i) t = env t ∧ (a.put o.dst v').tmps.getD t undef = a.tmps.getD t undef := fun t hd => by
    cases hdd : o.dst with
    | none => exact ⟨rfl, rfl⟩
    | some d =>
      have hne : t ≠ d := fun he => hd (by rw [hdd, he])
      have hN := X.parts.1 i o d ho hdd
      refine ⟨by simp [putE, hN, hne], ?_⟩
      simp [Act.put, Array.getD_eq_getD_getElem?, Array.getElem?_setIfInBounds_ne (Ne.symm hne)]
  have last : ∀ t k r, o.dst = some t → all[k]? = some r → r.dst = some t → D k → k < i := fun t k r hd hk hr hDk => by
    have hne : i ≠ k := fun he => hi (he ▸ hDk)
    have := X.parts.2.2.2.2 i k o r t ho hk hne hd (by simp [names, hr])
    simp only [ordered, Bool.or_eq_true] at this
    rcases this with h1 | h1
    · rw [hW.2 k r hk hDk] at h1; cases h1
    · exact (hW.1 k h1).2
  refine ⟨?_, ?_⟩
  · intro j q t hq hnd ht hall
    have hjl : j < all.length := (List.getElem?_eq_some_iff.1 hq).1
    have hnD : ¬ D j := fun hd => hnd (.inl hd)
    have hne : i ≠ j := fun he => hnd (.inr he.symm)
    by_cases hd : o.dst = some t
    · have := X.parts.2.2.2.2 i j o q t ho hq hne hd ht
      simp only [ordered, Bool.or_eq_true] at this
      have hlt : i < j := by
        rcases this with h1 | h1
        · exact bef_lt X.parts.2.1 j i hq h1
        · exact absurd (hW.1 j h1).1 hnD
      rw [(mine t hd).1, (mine t hd).2]
      have he : e j t = e (i + 1) t := X.envStay (by omega) (by omega) fun k r h1 h2 hk hr => by
        rcases hall k r h2 hk hr with h3 | h3
        · have := last t k r hd hk hr h3; omega
        · omega
      exact ⟨by rw [he, X.envPut hil ho hd], hv.mono (restr_mono (MLe.refl _) (X.monoN (by omega) (by omega)).1)⟩
    · rw [(other t hd).1, (other t hd).2]
      obtain ⟨g1, g2⟩ := I.en j q t hq hnD ht fun k r h1 hk hr => (hall k r h1 hk hr).resolve_right fun he => hd (by rw [he] at hk; rw [ho] at hk; cases hk; exact hr)
      exact ⟨g1, g2.mono (restr_mono hm (Nat.le_refl _))⟩
  · intro t hall
    by_cases hd : o.dst = some t
    · rw [(mine t hd).1, (mine t hd).2]
      have he : e all.length t = e (i + 1) t := X.envStay (by omega) (Nat.le_refl _) fun k r h1 h2 hk hr => by
        rcases hall k r hk hr with h3 | h3
        · have := last t k r hd hk hr h3; omega
        · omega
      exact ⟨by rw [he, X.envPut hil ho hd], hv.mono (restr_le _ _)⟩
    · rw [(other t hd).1, (other t hd).2]
      obtain ⟨g1, g2⟩ := I.enF t fun k r hk hr => (hall k r hk hr).resolve_right fun he => hd (by rw [he] at hk; rw [ho] at hk; cases hk; exact hr)
      exact ⟨g1, g2.mono hm⟩

theorem Ctx.maker (X : Ctx P C N all e h v) {i j b : Nat} (hi : i < all.length) (hj : j < all.length) (h1 : (h i).n ≤ b) (h2 : b < (h (i + 1)).n) (h3 : (h j).n ≤ b) (h4 : b < (h (j + 1)).n) : i = j := by
  rcases Nat.lt_trichotomy i j with hlt | he | hlt
  · have := (X.monoN (show i + 1 ≤ j by omega) (by omega)).1; omega
  · exact he
  · have := (X.monoN (show j + 1 ≤ i by omega) (by omega)).1; omega
theorem Inv.gap (X : Ctx P C N all e h v) (I : Inv P N all e h m0 w0 df D nx env a m V w) {i : Nat} (hi : i < all.length) (hn : ¬ D i) {b : Nat} (h1 : (h i).n ≤ b) (h2 : b < (h (i + 1)).n) : m b = none := by
  cases hb : m b with
  | none => rfl
  | some p =>
    have h0 := (X.monoN (Nat.zero_le i) (by omega)).1
    rcases I.mp b p hb with h3 | ⟨j, hD, hj, h3, h4⟩
    · omega
    · have := X.maker hi hj h1 h2 h3 h4
      exact absurd (this ▸ hD) hn

theorem Inv.atAct (X : Ctx P C N all e h v) (I : Inv P N all e h m0 w0 df D nx env a m V w) {i : Nat} {o : Oper} (ho : all[i]? = some o) (hi : ¬ D i) (hrdy : ∀ x ∈ o.after, Region.binds .any x = true → D x.on) (hk : kindOf P o.op = .act) :
    Inv P N all e h m0 w0 df D i env a m V w ∧ ∀ j q, all[j]? = some q → kindOf P q.op = .act → i + 1 ≤ j → ¬ D j := by
  have hil : i < all.length := (List.getElem?_eq_some_iff.1 ho).1
  have hW := I.waits X ho hi hrdy
  have before : ∀ j q, all[j]? = some q → kindOf P q.op = .act → j < i → D j := fun j q hq hkq hlt => by
    have := X.parts.2.2.2.1 j i q o hq ho (by omega) hkq hk
    simp only [ordered, Bool.or_eq_true] at this
    rcases this with h1 | h1
    · exact (hW.1 j h1).1
    · have := bef_lt X.parts.2.1 j i hq h1; omega
  have behind : ∀ j q, all[j]? = some q → kindOf P q.op = .act → i < j → ¬ D j := fun j q hq hkq hlt hD => by
    have := X.parts.2.2.2.1 i j o q ho hq (by omega) hk hkq
    simp only [ordered, Bool.or_eq_true] at this
    rcases this with h1 | h1
    · rw [hW.2 j q hq hD] at h1; cases h1
    · have := (hW.1 j h1).2; omega
  have hle : nx ≤ i := by
    rcases Nat.lt_or_ge i nx with h1 | h1
    · exact absurd (I.ahead i o ho hk h1) hi
    · exact h1
  refine ⟨I.move X hle (by omega) (fun j q h1 h2 hq hc => ?_) before (fun j q hq hkq h1 => ?_), behind⟩
  · exact absurd (before j q hq hc.1 h2) (I.behind j q hq hc.1 h1)
  · rcases Nat.eq_or_lt_of_le h1 with rfl | h1
    · exact hi
    · exact behind j q hq hkq h1
end

end Go.Eng

set_option linter.unusedVariables false
namespace Go.Eng
open Go

section
variable {P : Program} {gl : Bool} {C : CallF} {N : Nat} {all : List Oper} {e : Nat → Env} {h : Nat → Heap} {v : Nat → Value} {m0 : Mp} {w0 : World} {df : List Deferred} {D : Nat → Prop} {nx : Nat} {env : Env} {a : Act} {m : Mp} {V : Heap} {w : World}

theorem Inv.skip (X : Ctx P C N all e h v) (I : Inv P N all e h m0 w0 df D nx env a m V w) {i : Nat} {o : Oper} (ho : all[i]? = some o) (hi : ¬ D i) (hrdy : ∀ x ∈ o.after, Region.binds .any x = true → D x.on)
    (hw : wantedE all o (e i) = false) : ∃ nx', Inv P N all e h m0 w0 df (fun j => D j ∨ j = i) nx' (putE N env o.dst (v i)) (a.put o.dst undef) m V w := by
  have hil : i < all.length := (List.getElem?_eq_some_iff.1 ho).1
  obtain ⟨hv, hh⟩ := X.T.no i o (Nat.zero_le _) hil ho hw
  obtain ⟨t1, t2⟩ := I.temps X ho hi hrdy (MLe.refl m) (v' := undef) (by rw [hv]; exact VRel.undef)
  have hcl : ∀ j q, all[j]? = some q → (D j ∨ j = i) → ∀ x ∈ q.after, Region.binds .any x = true → D x.on ∨ x.on = i := fun j q hq hD x hx hb => by
    rcases hD with hD | rfl
    · exact .inl (I.cl j q hq hD x hx hb)
    · rw [ho] at hq; cases hq; exact .inl (hrdy x hx hb)
  have hmp : ∀ b p, m b = some p → b < (h 0).n ∨ ∃ j, (D j ∨ j = i) ∧ j < all.length ∧ (h j).n ≤ b ∧ b < (h (j + 1)).n := fun b p hp => by
    rcases I.mp b p hp with q | ⟨j, q1, q2⟩
    · exact .inl q
    · exact .inr ⟨j, .inl q1, q2⟩
  by_cases hk : kindOf P o.op = .act
  · obtain ⟨J, hbeh⟩ := I.atAct X ho hi hrdy hk
    refine ⟨i + 1, ?_⟩
    exact { J with
      cl := hcl, nxle := by omega
      ahead := fun j q hq hkq hlt => by
        rcases Nat.lt_succ_iff_lt_or_eq.1 hlt with h1 | h1
        · exact .inl (J.ahead j q hq hkq h1)
        · exact .inr h1
      behind := fun j q hq hkq hle hD => by
        rcases hD with hD | hD
        · exact hbeh j q hq hkq hle hD
        · omega
      mp := hmp
      c1 := by rw [hh]; exact J.c1
      c2 := by rw [hh]; exact J.c2
      l1 := fun k hk => by
        rcases Nat.lt_succ_iff_lt_or_eq.1 (Nat.lt_succ_of_le hk) with h1 | h1
        · exact J.l1 k (by omega)
        · rw [h1, hh]; exact J.l1 i (Nat.le_refl _)
      l2 := by rw [hh]; exact J.l2
      one := by rw [hh]; exact J.one
      fz := by rw [hh]; exact J.fz
      fr := by rw [hh]; exact J.fr
      en := t1, enF := t2
      asz := by rw [put_size]; exact J.asz
      adf := by rw [put_defers]; exact J.adf }
  · refine ⟨nx, ?_⟩
    exact { I with
      cl := hcl
      ahead := fun j q hq hkq hlt => .inl (I.ahead j q hq hkq hlt)
      behind := fun j q hq hkq hle hD => by
        rcases hD with hD | rfl
        · exact I.behind j q hq hkq hle hD
        · rw [ho] at hq; cases hq; exact hk hkq
      mp := hmp
      en := t1, enF := t2
      asz := by rw [put_size]; exact I.asz
      adf := by rw [put_defers]; exact I.adf }

theorem Inv.act (X : Ctx P C N all e h v) (I : Inv P N all e h m0 w0 df D nx env a m V w) {i : Nat} {o : Oper} (ho : all[i]? = some o) (hi : ¬ D i) (hrdy : ∀ x ∈ o.after, Region.binds .any x = true → D x.on)
    (hk : kindOf P o.op = .act) {m' : Mp} {v' : Value} {w' : World} (hv : VRel m' (v i) v') (S : Step (restr m (h i).n) (h i) w m' (h (i + 1)) w') :
    ∃ m2 V2, Inv P N all e h m0 w0 df (fun j => D j ∨ j = i) (i + 1) (putE N env o.dst (v i)) (a.put o.dst v') m2 V2 w' := by
  have hil : i < all.length := (List.getElem?_eq_some_iff.1 ho).1
  obtain ⟨J, hbeh⟩ := I.atAct X ho hi hrdy hk
  have hmono := (X.mono1 hil).1
  have h0i := (X.monoN (Nat.zero_le i) (by omega)).1
  obtain ⟨mm, VV, r1, r2, r3, r4, r5, r6, r7, r8, r9, r10⟩ := mergeAct J.rel (fun b p hb hp => J.c1 b p hp hb) (fun b h1 h2 => J.gap X hil hi h1 h2) S
  have hlow' : MLow m' (h (i + 1)).n := S.keepLow (restr_low _ _)
  have hv2 : VRel (restr mm (h (i + 1)).n) (v i) v' := by
    refine hv.mono fun b p hb => ?_
    unfold restr
    rw [if_pos (hlow' b p hb)]
    exact r3 b p hb
  obtain ⟨t1, t2⟩ := J.temps X ho hi hrdy r2 hv2
  refine ⟨mm, VV, ?_⟩
  exact {
    cl := fun j q hq hD x hx hb => by
      rcases hD with hD | rfl
      · exact .inl (J.cl j q hq hD x hx hb)
      · rw [ho] at hq; cases hq; exact .inl (hrdy x hx hb)
    nxle := by omega
    ahead := fun j q hq hkq hlt => by
      rcases Nat.lt_succ_iff_lt_or_eq.1 hlt with h1 | h1
      · exact .inl (J.ahead j q hq hkq h1)
      · exact .inr h1
    behind := fun j q hq hkq hle hD => by
      rcases hD with hD | hD
      · exact hbeh j q hq hkq hle hD
      · omega
    rel := r1
    ml := fun b p hp => by
      by_cases hb : b < (h (i + 1)).n
      · omega
      · rw [r5 b (.inr (by omega))] at hp
        have := J.ml b p hp; omega
    x := fun b hb => by rw [r4 b (by omega)]; exact J.x b hb
    mp := fun b p hp => by
      by_cases h1 : b < (h i).n ∨ (h (i + 1)).n ≤ b
      · rw [r5 b h1] at hp
        rcases J.mp b p hp with q | ⟨j, q1, q2⟩
        · exact .inl q
        · exact .inr ⟨j, .inl q1, q2⟩
      · exact .inr ⟨i, .inr rfl, hil, by omega, by omega⟩
    c1 := fun b p hp hb => r6 b hb
    c2 := fun b p hp hb j hj h1 h2 => by
      rw [r7 b hb]
      rw [r5 b (.inr hb)] at hp
      exact J.c2 b p hp (by omega) j hj h1 h2
    l1 := fun k hk b p blk hp hb hV j y hy => by
      rcases Nat.lt_succ_iff_lt_or_eq.1 (Nat.lt_succ_of_le hk) with h1 | h1
      · have := (X.monoN (show k ≤ i by omega) (by omega)).1
        rw [r4 b (by omega)] at hp
        exact J.l1 k (by omega) b p blk hp hb hV j y hy
      · subst h1
        rw [r8 b hb] at hp
        exact (S.rel.blk b blk p hV hp).loc hlow' j y hy
    l2 := fun b p blk hp hb hV j hj h1 h2 k y hy => by
      rw [r7 b hb] at hV
      rw [r5 b (.inr hb)] at hp
      exact J.l2 b p blk hp (by omega) hV j hj h1 h2 k y hy
    one := S.rel.one
    fz := fun b blk hb hof => by
      rw [J.fz b blk hb hof]
      exact ⟨fun hg => S.old b blk (by omega) hg hof, fun hg => S.back b blk (by omega) hg hof⟩
    fr := fun b blk hb hg => by
      by_cases h1 : b < (h i).n
      · cases hof : blk.own with
        | true => rfl
        | false =>
          have := J.fr b blk hb (S.back b blk h1 hg hof)
          rw [hof] at this; cases this
      · exact S.fresh b blk (by omega) hg
    en := t1, enF := t2
    size := Nat.le_trans J.size S.size
    frame := fun c hc hn => by
      rw [S.frame c (Nat.lt_of_lt_of_le hc J.size) fun b blk p hb hof hp heq => ?_]
      · exact J.frame c hc hn
      · have hb1 := restr_low _ _ b p hp
        have hp1 := restr_le _ _ b p hp
        obtain ⟨b0, k0, p0, q1, q2, q3, q4⟩ := J.own b blk p ((J.c1 b p hp1 hb1).trans hb) hof hp1 (by rw [heq]; exact hc)
        exact hn b0 k0 p0 q1 q2 q3 (q4.trans heq)
    own := fun b blk p hb hof hp hlt => by
      by_cases h1 : b < (h (i + 1)).n
      · rw [r6 b h1] at hb
        rw [r8 b h1] at hp
        obtain ⟨b1, k1, p1, q1, q2, q3, q4⟩ := S.own b blk p hb hof hp (Nat.lt_of_lt_of_le hlt J.size)
        have hb1 := restr_low _ _ b1 p1 q3
        have hp1 := restr_le _ _ b1 p1 q3
        obtain ⟨b0, k0, p0, s1, s2, s3, s4⟩ := J.own b1 k1 p1 ((J.c1 b1 p1 hp1 hb1).trans q1) q2 hp1 (by rw [q4]; exact hlt)
        exact ⟨b0, k0, p0, s1, s2, s3, s4.trans q4⟩
      · rw [r7 b (by omega)] at hb
        rw [r5 b (.inr (by omega))] at hp
        exact J.own b blk p hb hof hp hlt
    os := S.os.trans J.os
    tape := S.tape.trans J.tape
    output := S.output.trans J.output
    asz := by rw [put_size]; exact J.asz
    adf := by rw [put_defers]; exact J.adf }

theorem Inv.make (X : Ctx P C N all e h v) (I : Inv P N all e h m0 w0 df D nx env a m V w) {i : Nat} {o : Oper} (ho : all[i]? = some o) (hi : ¬ D i) (hrdy : ∀ x ∈ o.after, Region.binds .any x = true → D x.on)
    (hk : kindOf P o.op = .make) (hw : wantedE all o (e i) = true) {blk : Blk} (hh : h (i + 1) = (h i).push blk) {m' : Mp} {v' : Value} {w' : World} (hv : VRel m' (v i) v')
    (S : Step (restr m (h i).n) ⟨(h i).n, fun _ => none⟩ w m' (Heap.push ⟨(h i).n, fun _ => none⟩ blk) w') :
    ∃ m2 V2, Inv P N all e h m0 w0 df (fun j => D j ∨ j = i) nx (putE N env o.dst (v i)) (a.put o.dst v') m2 V2 w' := by
  have hil : i < all.length := (List.getElem?_eq_some_iff.1 ho).1
  have hn1 : (h (i + 1)).n = (h i).n + 1 := by rw [hh]; rfl
  have hgl : (h (i + 1)).get (h i).n = some blk := by rw [hh]; simp [Heap.push]
  have h0i := (X.monoN (Nat.zero_le i) (by omega)).1
  have hW := I.waits X ho hi hrdy
  have hgap : m (h i).n = none := I.gap X hil hi (Nat.le_refl _) (by omega)
  obtain ⟨mm, VV, r1, r2, r3, r4, r5, r6, r7, r8, r9, r10, r11⟩ := mergeNew I.rel hgap S
  have hlow' : MLow m' (h (i + 1)).n := by rw [hn1]; exact S.keepLow (restr_low _ _)
  have hv2 : VRel (restr mm (h (i + 1)).n) (v i) v' := by
    refine hv.mono fun b p hb => ?_
    unfold restr
    rw [if_pos (hlow' b p hb)]
    exact r3 b p hb
  obtain ⟨t1, t2⟩ := I.temps X ho hi hrdy r2 hv2
  have hcells : ∀ p, mm (h i).n = some p → ∀ (j : Nat) y, blk.vals[j]? = some y → Loc (h (i + 1)).n y := fun p hp j y hy => by
    rw [r7] at hp
    exact (S.rel.blk (h i).n blk p (by simp [Heap.push]) hp).loc hlow' j y hy
  have hkeep : ∀ k, k ≤ nx → i < k → (h k).get (h i).n = some blk := fun k hkn hlt => by
    have hnx := I.nxle
    rw [X.stable (show i + 1 ≤ k by omega) (by omega) (show (h i).n < (h (i + 1)).n by omega) fun j q h1 h2 hq hkq hwq => ?_]
    · exact hgl
    · have hchk := X.T.act i j o q (some (h i).n) (Nat.zero_le _) (by omega) (by have := I.nxle; omega) ho hq hw hwq (by simp [touch, hk]) hkq
      rcases hchk with hc | hc
      · simp only [ordered, Bool.or_eq_true] at hc
        rcases hc with hc | hc
        · rw [hW.2 j q hq (I.ahead j q hq hkq (by omega))] at hc; cases hc
        · have := (hW.1 j hc).2; omega
      · exact sameBlk_eq hc (Nat.lt_of_lt_of_le (show (h i).n < (h (i + 1)).n by omega) (X.monoN (by omega) (by have := I.nxle; omega)).1)
  have hside : ∀ k, (h i).n < (h k).n → i < k := fun k hlt => by
    rcases Nat.lt_or_ge i k with h1 | h1
    · exact h1
    · have := (X.monoN h1 (by omega)).1; omega
  refine ⟨mm, VV, ?_⟩
  exact {
    cl := fun j q hq hD x hx hb => by
      rcases hD with hD | rfl
      · exact .inl (I.cl j q hq hD x hx hb)
      · rw [ho] at hq; cases hq; exact .inl (hrdy x hx hb)
    nxle := I.nxle
    ahead := fun j q hq hkq hlt => .inl (I.ahead j q hq hkq hlt)
    behind := fun j q hq hkq hle hD => by
      rcases hD with hD | rfl
      · exact I.behind j q hq hkq hle hD
      · rw [ho] at hq; cases hq; rw [hk] at hkq; cases hkq
    rel := r1
    ml := fun b p hp => by
      by_cases hb : b = (h i).n
      · subst hb; exact r9
      · rw [r4 b hb] at hp
        have := I.ml b p hp; omega
    x := fun b hb => by rw [r4 b (by omega)]; exact I.x b hb
    mp := fun b p hp => by
      by_cases hb : b = (h i).n
      · exact .inr ⟨i, .inr rfl, hil, by omega, by omega⟩
      · rw [r4 b hb] at hp
        rcases I.mp b p hp with q | ⟨j, q1, q2⟩
        · exact .inl q
        · exact .inr ⟨j, .inl q1, q2⟩
    c1 := fun b p hp hb => by
      by_cases he : b = (h i).n
      · subst he; rw [r5, hkeep nx (Nat.le_refl _) (hside nx hb)]
      · rw [r6 b he]; rw [r4 b he] at hp; exact I.c1 b p hp hb
    c2 := fun b p hp hb j hj h1 h2 => by
      by_cases he : b = (h i).n
      · subst he
        have := X.maker hj hil h1 h2 (Nat.le_refl _) (by omega)
        subst this
        rw [r5, hgl]
      · rw [r6 b he]; rw [r4 b he] at hp; exact I.c2 b p hp hb j hj h1 h2
    l1 := fun kk hkk b p k hp hb hV j y hy => by
      by_cases he : b = (h i).n
      · subst he
        rw [hkeep kk hkk (hside kk hb)] at hV; injection hV with hV; subst hV
        exact (hcells p hp j y hy).mono (X.monoN (show i + 1 ≤ kk by have := hside kk hb; omega) (by have := I.nxle; omega)).1
      · rw [r4 b he] at hp; exact I.l1 kk hkk b p k hp hb hV j y hy
    l2 := fun b p k hp hb hV j hj h1 h2 k' y hy => by
      by_cases he : b = (h i).n
      · subst he
        have := X.maker hj hil h1 h2 (Nat.le_refl _) (by omega)
        subst this
        rw [r5] at hV; injection hV with hV; subst hV
        exact hcells p hp k' y hy
      · rw [r6 b he] at hV; rw [r4 b he] at hp; exact I.l2 b p k hp hb hV j hj h1 h2 k' y hy
    one := I.one
    fz := I.fz
    fr := I.fr
    en := t1, enF := t2
    size := Nat.le_trans I.size S.size
    frame := fun c hc hn => by
      rw [r10 c (Nat.lt_of_lt_of_le hc I.size)]; exact I.frame c hc hn
    own := fun b k p hb hof hp hlt => by
      by_cases he : b = (h i).n
      · subst he
        have := r11 p hp
        have := I.size; omega
      · rw [r6 b he] at hb; rw [r4 b he] at hp; exact I.own b k p hb hof hp hlt
    os := S.os.trans I.os
    tape := S.tape.trans I.tape
    output := S.output.trans I.output
    asz := by rw [put_size]; exact I.asz
    adf := by rw [put_defers]; exact I.adf }

theorem Inv.look (X : Ctx P C N all e h v) (I : Inv P N all e h m0 w0 df D nx env a m V w) {i : Nat} {o : Oper} (ho : all[i]? = some o) (hi : ¬ D i) (hrdy : ∀ x ∈ o.after, Region.binds .any x = true → D x.on)
    (hk : kindOf P o.op ≠ .act) (hh : h (i + 1) = h i) {m' : Mp} {v' : Value} {w' : World} (hL : Loc (h i).n (v i)) (hv : VRel m' (v i) v') (S : Step m V w m' V w') :
    Inv P N all e h m0 w0 df (fun j => D j ∨ j = i) nx (putE N env o.dst (v i)) (a.put o.dst v') m V w' := by
  have hil : i < all.length := (List.getElem?_eq_some_iff.1 ho).1
  have hmm : m' = m := by
    funext b
    by_cases hb : b < V.n
    · exact S.ext b hb
    · have h1 : m b = none := by
        cases hx : m b with
        | none => rfl
        | some p => exact absurd (I.ml b p hx) hb
      have h2 : m' b = none := by
        cases hx : m' b with
        | none => rfl
        | some p => exact absurd (S.keepLow I.ml b p hx) hb
      rw [h1, h2]
  subst hmm
  obtain ⟨t1, t2⟩ := I.temps X ho hi hrdy (MLe.refl m') (v' := v') (by rw [hh]; exact hv.restr hL)
  exact { I with
    cl := fun j q hq hD x hx hb => by
      rcases hD with hD | rfl
      · exact .inl (I.cl j q hq hD x hx hb)
      · rw [ho] at hq; cases hq; exact .inl (hrdy x hx hb)
    ahead := fun j q hq hkq hlt => .inl (I.ahead j q hq hkq hlt)
    behind := fun j q hq hkq hle hD => by
      rcases hD with hD | rfl
      · exact I.behind j q hq hkq hle hD
      · rw [ho] at hq; cases hq; exact hk hkq
    rel := S.rel
    mp := fun b p hp => by
      rcases I.mp b p hp with q | ⟨j, q1, q2⟩
      · exact .inl q
      · exact .inr ⟨j, .inl q1, q2⟩
    en := t1, enF := t2
    size := Nat.le_trans I.size S.size
    frame := fun c hc hn => by
      rw [S.frame c (Nat.lt_of_lt_of_le hc I.size) fun b blk p hb hof hp heq => ?_]
      · exact I.frame c hc hn
      · obtain ⟨b0, k0, p0, q1, q2, q3, q4⟩ := I.own b blk p hb hof hp (by rw [heq]; exact hc)
        exact hn b0 k0 p0 q1 q2 q3 (q4.trans heq)
    os := S.os.trans I.os
    tape := S.tape.trans I.tape
    output := S.output.trans I.output
    asz := by rw [put_size]; exact I.asz
    adf := by rw [put_defers]; exact I.adf }
end

end Go.Eng

set_option linter.unusedVariables false
namespace Go.Eng
open Go

theorem ldC_loc {n : Nat} {x v : Value} {H H' : Heap} (h : ldC x H = some (v, H')) (hl : ∀ b, blkOf x = some b → ∀ blk, H.get b = some blk → ∀ (j : Nat) y, blk.cells[j]? = some y → Loc n y) : Loc n v := by
  unfold ldC at h
  split at h
  · rename_i b o
    split at h
    · rename_i blk hb
      split at h
      · rename_i v' hc
        simp only [Option.some.injEq, Prod.mk.injEq] at h
        obtain ⟨rfl, rfl⟩ := h
        exact hl b rfl blk hb _ _ hc
      · cases h
    · cases h
  · cases h
theorem ldA_loc {n k : Nat} {x v : Value} {H H' : Heap} (h : ldA k x H = some (v, H')) (hl : ∀ b, blkOf x = some b → ∀ blk, H.get b = some blk → ∀ (j : Nat) y, blk.cells[j]? = some y → Loc n y) : Loc n v := by
  unfold ldA at h
  split at h
  · rename_i b o
    split at h
    · rename_i blk hb
      split at h
      · simp only [Option.some.injEq, Prod.mk.injEq] at h
        obtain ⟨rfl, rfl⟩ := h
        refine .agg fun i y hy => ?_
        simp only [cut] at hy
        rw [List.getElem?_take] at hy
        split at hy
        · rw [List.getElem?_drop] at hy
          exact hl b rfl blk hb _ _ hy
        · cases hy
      · cases h
    · cases h
  · cases h
theorem toStr_loc {n : Nat} {x v : Value} {H H' : Heap} (h : toStr x H = some (v, H')) : Loc n v := by
  unfold toStr at h
  split at h
  · simp only [Option.some.injEq, Prod.mk.injEq] at h; obtain ⟨rfl, _⟩ := h; exact .flat rfl
  · split at h
    · simp only [Option.some.injEq, Prod.mk.injEq] at h; obtain ⟨rfl, _⟩ := h; exact .flat rfl
    split at h
    · split at h
      · split at h
        · simp only [Option.some.injEq, Prod.mk.injEq] at h; obtain ⟨rfl, _⟩ := h; exact .flat rfl
        · cases h
      · cases h
    · cases h
  · cases h
theorem kind_read_loc {P : Program} {C : CallF} {env : Env} {o : Op} {H H' : Heap} {v : Value} {n : Nat} (hk : kindOf P o = .read) (h : aop P C env o H = some (v, H'))
    (hl : ∀ b, readBlk env o = some b → ∀ blk, H.get b = some blk → ∀ (j : Nat) y, blk.cells[j]? = some y → Loc n y) : Loc n v := by
  cases o <;> simp only [kindOf] at hk <;> first | (cases hk; done) | skip
  case load t x =>
    simp only [aop] at h
    split at h
    · exact ldA_loc h hl
    · exact ldC_loc h hl
    · cases h
  case convert s d x =>
    simp only [aop] at h
    cases hc : cnvOf P s d <;> simp only [hc] at hk h <;> first | (cases hk; done) | skip
    simp only [cnv] at h
    exact toStr_loc h
  case call c =>
    obtain ⟨callee, args, argTypes⟩ := c
    cases callee with
    | value f => exact nomatch (show OKind.act = OKind.read from hk)
    | invoke r n => exact nomatch (show OKind.act = OKind.read from hk)
    | builtin b =>
      cases b <;> first
        | exact nomatch (show OKind.act = OKind.read from hk)
        | exact nomatch (show OKind.pure = OKind.read from hk)
        | (simp only [kindOf] at hk; rcases kite hk with h1 | h1 <;> cases h1)

theorem VRel.blkOf {m : Mp} {v v' : Value} (h : VRel m v v') {b : Nat} (hb : Eng.blkOf v = some b) : ∃ p, m b = some p := by
  cases h with
  | flat hf =>
    cases v with
    | pointer o => cases o with
      | none => simp [Eng.blkOf] at hb
      | some o => simp [flat1] at hf
    | slice o n c => cases o with
      | none => simp [Eng.blkOf] at hb
      | some o => simp [flat1] at hf
    | _ => simp [Eng.blkOf] at hb
  | ptr h => simp [Eng.blkOf] at hb; subst hb; exact ⟨_, h⟩
  | slc h => simp [Eng.blkOf] at hb; subst hb; exact ⟨_, h⟩
  | slx h => simp [Eng.blkOf] at hb; subst hb; exact ⟨_, h⟩
  | sl0 h => simp [Eng.blkOf] at hb; subst hb; exact ⟨_, h⟩
  | mapv => simp [Eng.blkOf] at hb
  | junk => simp [Eng.blkOf, junkV] at hb
  | func => simp [Eng.blkOf] at hb
  | agg => simp [Eng.blkOf] at hb
  | tuple => simp [Eng.blkOf] at hb

section
variable {P : Program} {gl : Bool} {C : CallF} {N : Nat} {all : List Oper} {e : Nat → Env} {h : Nat → Heap} {v : Nat → Value} {m0 : Mp} {w0 : World} {df : List Deferred} {D : Nat → Prop} {nx : Nat} {env : Env} {a : Act} {m : Mp} {V : Heap} {w : World}

theorem Inv.sees (X : Ctx P C N all e h v) (I : Inv P N all e h m0 w0 df D nx env a m V w) {i : Nat} {o : Oper} (ho : all[i]? = some o) (hi : ¬ D i) (hrdy : ∀ x ∈ o.after, Region.binds .any x = true → D x.on)
    (hk : kindOf P o.op = .read) (hw : wantedE all o (e i) = true) {b : Nat} {p : Pl} (hb : readBlk (e i) o.op = some b) (hp : m b = some p) (hbn : b < (h i).n) :
    V.get b = (h i).get b ∧ ∀ blk, (h i).get b = some blk → ∀ (j : Nat) y, blk.cells[j]? = some y → Loc (h i).n y := by
  have hil : i < all.length := (List.getElem?_eq_some_iff.1 ho).1
  have hW := I.waits X ho hi hrdy
  have hnx := I.nxle
  rcases Nat.lt_or_ge nx i with hlt | hle
  · -- calls that stand ahead are still to come: none of them changes it
    have hch : ∀ j q, nx ≤ j → j < i → all[j]? = some q → kindOf P q.op = .act → wantedE all q (e j) = true → b < (h j).n → (h (j + 1)).get b = (h j).get b := fun j q h1 h2 hq hkq hwq hbj => by
      have hc := X.T.read j i q o (Nat.zero_le _) h2 (by omega) hq ho hwq hw hkq hk
      rw [hb] at hc
      rcases hc with hc | hc
      · simp only [ordered, Bool.or_eq_true] at hc
        rcases hc with hc | hc
        · exact absurd (hW.1 j hc).1 (I.behind j q hq hkq h1)
        · have := bef_lt X.parts.2.1 j i hq hc; omega
      · exact sameBlk_eq hc hbj
    by_cases hbx : b < (h nx).n
    · have hs : (h i).get b = (h nx).get b := X.stable (by omega) (by omega) hbx fun j q h1 h2 hq hkq hwq => hch j q h1 h2 hq hkq hwq (Nat.lt_of_lt_of_le hbx (X.monoN h1 (by omega)).1)
      refine ⟨by rw [I.c1 b p hp hbx, hs], fun blk hbk j y hy => ?_⟩
      rw [hs] at hbk
      exact (I.l1 nx (Nat.le_refl _) b p blk hp hbx hbk j y (Blk.vals_cells hy)).mono (X.monoN (by omega) (by omega)).1
    · have mk : ∃ k, nx ≤ k ∧ k < i ∧ (h k).n ≤ b ∧ b < (h (k + 1)).n := by
        have key : ∀ d, nx + d ≤ i → b < (h (nx + d)).n → ∃ k, nx ≤ k ∧ k < i ∧ (h k).n ≤ b ∧ b < (h (k + 1)).n := by
          intro d
          induction d with
          | zero => intro _ hb; simp only [Nat.add_zero] at hb; omega
          | succ d ih =>
            intro hd hb
            by_cases hc : b < (h (nx + d)).n
            · exact ih (by omega) hc
            · exact ⟨nx + d, by omega, by omega, by omega, hb⟩
        exact key (i - nx) (by omega) (by rw [Nat.add_sub_cancel' (by omega)]; exact hbn)
      obtain ⟨k, k1, k2, k3, k4⟩ := mk
      have hs : (h i).get b = (h (k + 1)).get b := X.stable (by omega) (by omega) k4 fun j q h1 h2 hq hkq hwq => hch j q (by omega) h2 hq hkq hwq (Nat.lt_of_lt_of_le k4 (X.monoN h1 (by omega)).1)
      have hc2 := I.c2 b p hp (by omega) k (by omega) k3 k4
      refine ⟨by rw [hc2, hs], fun blk hbk j y hy => ?_⟩
      rw [hs, ← hc2] at hbk
      exact (I.l2 b p blk hp (by omega) hbk k (by omega) k3 k4 j y (Blk.vals_cells hy)).mono (X.monoN (by omega) (by omega)).1
  · -- calls that stand behind are done: none of them has changed it
    have hs : (h nx).get b = (h i).get b := X.stable hle hnx hbn fun j q h1 h2 hq hkq hwq => by
      have hne : i ≠ j := fun he => by subst he; rw [ho] at hq; cases hq; rw [hk] at hkq; cases hkq
      have hc := X.T.act i j o q (readBlk (e i) o.op) (Nat.zero_le _) (by omega) (by omega) ho hq hw hwq (by simp [touch, hk]) hkq
      rw [hb] at hc
      rcases hc with hc | hc
      · simp only [ordered, Bool.or_eq_true] at hc
        rcases hc with hc | hc
        · rw [hW.2 j q hq (I.ahead j q hq hkq h2)] at hc; cases hc
        · have := (hW.1 j hc).2; omega
      · exact sameBlk_eq hc (Nat.lt_of_lt_of_le hbn (X.monoN (by omega) (by omega)).1)
    exact ⟨by rw [I.c1 b p hp (Nat.lt_of_lt_of_le hbn (X.monoN hle hnx).1), hs], fun blk hbk j y hy => I.l1 i hle b p blk hp hbn hbk j y (Blk.vals_cells hy)⟩

theorem Inv.exec (X : Ctx P C N all e h v) (hC : CSound P gl C) (hg : GOK P gl m0) (hl0 : MLow m0 (h 0).n) (I : Inv P N all e h m0 w0 df D nx env a m V w) {i : Nat} {o : Oper} (ho : all[i]? = some o) (hi : ¬ D i) (hrdy : ∀ x ∈ o.after, Region.binds .any x = true → D x.on)
    (hok : o.op.operands.toList.all (okOpd P gl) = true) {Q : Exit → Act → World → Prop} {K : Act → World → Prop}
    (hK : ∀ nx' env' a' m' V' w', Inv P N all e h m0 w0 df (fun j => D j ∨ j = i) nx' env' a' m' V' w' → K a' w') : wpOp P all.toArray Q i K a w := by
  have hil : i < all.length := (List.getElem?_eq_some_iff.1 ho).1
  have h0i := (X.monoN (Nat.zero_le i) (by omega)).1
  have hoA : all.toArray[i]? = some o := by simpa using ho
  have hlooks : ∀ t, t ∈ o.looksAt all.toArray → env t = e i t ∧ VRel (restr m (h i).n) (env t) (a.tmps.getD t undef) := fun t ht => I.looks X ho hi hrdy (by simp [names, ht])
  have hopT : ∀ t, Operand.tmp t ∈ o.op.operands → t ∈ o.looksAt all.toArray := fun t ht => by
    unfold Oper.looksAt
    rw [List.mem_append]; left
    rw [List.mem_filterMap]
    exact ⟨.tmp t, by simpa using ht, rfl⟩
  have hgT : ∀ j want d, o.guard = some (j, want) → (all[j]?).bind (·.dst) = some d → d ∈ o.looksAt all.toArray := fun j want d hgd hd => by
    unfold Oper.looksAt
    rw [List.mem_append]; right
    rw [hgd]
    simp [hd]
  have hwant : Region.wanted o (yielded all.toArray a.tmps) = wantedE all o (e i) := by
    rw [wanted_sound' (m := restr m (h i).n) (env := env) all o (fun j want d hgd hd => (hlooks d (hgT j want d hgd hd)).2)]
    unfold wantedE
    cases hgd : o.guard with
    | none => rfl
    | some g =>
      obtain ⟨j, want⟩ := g
      simp only
      cases hd : (all[j]?).bind (·.dst) with
      | none => rfl
      | some d => simp only; rw [(hlooks d (hgT j want d hgd hd)).1]
  have hev : ∀ x ∈ o.op.operands, ev (e i) x = ev env x := fun x hx => by
    cases x with
    | tmp t => exact ((hlooks t (hopT t hx)).1).symm
    | _ => rfl
  have hgr : GOK P gl (restr m (h i).n) := fun hgl g hlt => by
    have h1 := hg hgl g hlt
    have h2 := hl0 g _ h1
    unfold restr
    rw [if_pos (by omega), I.x g h2]; exact h1
  have hVR : ∀ x ∈ o.op.operands, VRel (restr m (h i).n) (ev (e i) x) (a.eval x) := fun x hx => by
    cases x with
    | tmp t => rw [hev _ hx]; exact (hlooks t (hopT t hx)).2
    | const c => exact VRel.ofFlat (v := c) (by rw [List.all_eq_true] at hok; simpa [okOpd] using hok _ (by simpa using hx))
    | global g =>
      rw [List.all_eq_true] at hok
      have := hok (.global g) (by simpa using hx)
      exact ev_sound (env := fun _ => undef) (a := { tmps := #[], defers := [] }) (fun t => by simpa using VRel.undef) hgr this
    | func f =>
      exact ev_sound (P := P) (gl := gl) (env := fun _ => undef) (a := { tmps := #[], defers := [] }) (fun t => by simpa using VRel.undef) hgr (x := .func f) rfl
  unfold wpOp
  rw [hoA]
  simp only
  rw [hwant]
  by_cases hw : wantedE all o (e i) = true
  · rw [if_pos hw]
    left
    have hy := X.T.yes i o (Nat.zero_le _) hil ho hw
    have hmle : MLe (restr m (h i).n) m := restr_le _ _
    cases hk : kindOf P o.op with
    | act =>
      obtain ⟨J, _⟩ := I.atAct X ho hi hrdy hk
      refine Oper.wp_mono (K := fun a' w' => ∃ m' v', a' = a.put o.dst v' ∧ VRel m' (v i) v' ∧ Step (restr m (h i).n) (h i) w m' (h (i + 1)) w') (fun a' w' ⟨m', v', ha, hv, hS⟩ => ?_) (aop_sound' hC hgr hVR (J.heap X) (restr_low _ _) hy)
      subst ha
      obtain ⟨m2, V2, I2⟩ := I.act X ho hi hrdy hk hv hS
      exact hK _ _ _ _ _ _ I2
    | make =>
      obtain ⟨blk, hp, ho1, hH⟩ := kind_make hk hy
      have hrel : HRel (restr m (h i).n) ⟨(h i).n, fun _ => none⟩ w := ⟨fun b k hb => (by cases hb), fun b k p hb => (by cases hb), fun b b' k k' p p' _ hb => (by cases hb), fun b k hb => (by cases hb), fun b k p hb => (by cases hb)⟩
      have hy2 := hH ⟨(h i).n, fun _ => none⟩ rfl
      refine Oper.wp_mono (K := fun a' w' => ∃ m' v', a' = a.put o.dst v' ∧ VRel m' (v i) v' ∧ Step (restr m (h i).n) ⟨(h i).n, fun _ => none⟩ w m' (Heap.push ⟨(h i).n, fun _ => none⟩ blk) w') (fun a' w' ⟨m', v', ha, hv, hS⟩ => ?_) (aop_sound' hC hgr hVR hrel (restr_low _ _) hy2)
      subst ha
      obtain ⟨m2, V2, I2⟩ := I.make X ho hi hrdy hk hw hp hv hS
      exact hK _ _ _ _ _ _ I2
    | pure =>
      obtain ⟨hh, hH⟩ := kind_pure hk hy
      have hrel : HRel (restr m (h i).n) ⟨(h i).n, fun _ => none⟩ w := ⟨fun b k hb => (by cases hb), fun b k p hb => (by cases hb), fun b b' k k' p p' _ hb => (by cases hb), fun b k hb => (by cases hb), fun b k p hb => (by cases hb)⟩
      have hy2 := hH ⟨(h i).n, fun _ => none⟩
      have hyV := hH V
      have hgm : GOK P gl m := hgr.mono hmle
      have hA := aop_sound' (Q := Q) hC hgr hVR hrel (restr_low _ _) hy2
      refine Oper.wp_mono (K := fun a' w' => ∃ m' v', a' = a.put o.dst v' ∧ VRel m' (v i) v' ∧ Step (restr m (h i).n) ⟨(h i).n, fun _ => none⟩ w m' ⟨(h i).n, fun _ => none⟩ w') (fun a' w' ⟨m', v', ha, hv, hS⟩ => ?_) hA
      subst ha
      have hlow' := hS.keepLow (restr_low _ _)
      have hm' : m' = restr m (h i).n := by
        funext b
        by_cases hb : b < (h i).n
        · exact hS.ext b hb
        · have h1 : m' b = none := by
            cases hx : m' b with
            | none => rfl
            | some p => exact absurd (hlow' b p hx) hb
          have h2 : restr m (h i).n b = none := by unfold restr; rw [if_neg hb]
          rw [h1, h2]
      subst hm'
      have hfr : ∀ c, c < w.heap.size → w'.heap[c]? = w.heap[c]? := fun c hc => hS.frame c hc fun b k p hb => (by cases hb)
      have SV : Step m V w m V w' := by
        refine ⟨fun _ _ => rfl, Nat.le_refl _, ⟨I.rel.low, fun b k p hb hp => ?_, I.rel.inj, I.rel.one, I.rel.froz⟩, hS.size, fun c hc _ => hfr c hc, fun b k p h1 h2 h3 _ => ⟨b, k, p, h1, h2, h3, rfl⟩, hS.os, hS.tape, hS.output, fun _ _ _ q _ => q, fun _ _ _ q _ => q, id, fun b k h1 h2 => by have := I.rel.low b k h2; omega⟩
        exact (I.rel.blk b k p hb hp).at (hfr _ (I.rel.blk b k p hb hp).lt)
      exact hK _ _ _ _ _ _ (I.look X ho hi hrdy (by rw [hk]; exact fun q => nomatch q) hh (hv.loc (restr_low _ _)) (hv.mono hmle) SV)
    | read =>
      obtain ⟨hh, hex, hH⟩ := kind_read hk hy
      have hread : ∀ b, readBlk (e i) o.op = some b → ∃ p, restr m (h i).n b = some p := fun b hb => by
        have : ∃ x ∈ o.op.operands, blkOf (ev (e i) x) = some b := by
          revert hb hk
          cases o.op <;> intro hk hb <;> first
            | (simp [readBlk] at hb; done)
            | (rename_i t x; exact ⟨x, by simp [Op.operands], hb⟩)
            | (rename_i s d x; exact ⟨x, by simp [Op.operands], hb⟩)
        obtain ⟨x, hx, hbx⟩ := this
        exact (hVR x hx).blkOf hbx
      have hsee : ∀ b, readBlk (e i) o.op = some b → V.get b = (h i).get b ∧ ∀ blk, (h i).get b = some blk → ∀ (j : Nat) y, blk.cells[j]? = some y → Loc (h i).n y := fun b hb => by
        obtain ⟨p, hp⟩ := hread b hb
        exact I.sees X ho hi hrdy hk hw hb (restr_le _ _ b p hp) (restr_low _ _ b p hp)
      have hL : Loc (h i).n (v i) := kind_read_loc hk hy fun b hb => (hsee b hb).2
      have hyV := hH V fun b hb => (hsee b hb).1
      have hgm : GOK P gl m := hgr.mono hmle
      refine Oper.wp_mono (K := fun a' w' => ∃ m' v', a' = a.put o.dst v' ∧ VRel m' (v i) v' ∧ Step m V w m' V w') (fun a' w' ⟨m', v', ha, hv, hS⟩ => ?_) (aop_sound' hC hgm (fun x hx => (hVR x hx).mono hmle) I.rel I.ml hyV)
      subst ha
      exact hK _ _ _ _ _ _ (I.look X ho hi hrdy (by rw [hk]; exact fun q => nomatch q) hh hL hv hS)
  · rw [if_neg hw]
    obtain ⟨nx', I2⟩ := I.skip X ho hi hrdy (by simpa using hw)
    exact hK _ _ _ _ _ _ I2

theorem Inv.done (X : Ctx P C N all e h v) (I : Inv P N all e h m0 w0 df D nx env a m V w) (hall : ∀ i, i < all.length → D i) (hl0 : MLow m0 (h 0).n) :
    Inv P N all e h m0 w0 df D all.length env a m V w := by
  refine I.move X I.nxle (Nat.le_refl _) (fun i o h1 h2 hq hc => I.behind i o hq hc.1 h1 (hall i h2)) (fun i o hq hkq hlt => hall i hlt) (fun i o hq hkq hle => ?_)
  have := (List.getElem?_eq_some_iff.1 hq).1
  omega
theorem Inv.last (X : Ctx P C N all e h v) (I : Inv P N all e h m0 w0 df D nx env a m V w) (hall : ∀ i, i < all.length → D i) (hl0 : MLow m0 (h 0).n) :
    ERel m (e all.length) a ∧ Step m0 (h 0) w0 m (h all.length) w := by
  have J := I.done X hall hl0
  have hE : ERel m (e all.length) a := fun t => by
    obtain ⟨q1, q2⟩ := J.enF t fun k q hk _ => hall k (List.getElem?_eq_some_iff.1 hk).1
    rw [← q1]; exact q2
  have hml : MLow m (h all.length).n := fun b p hp => by
    rcases J.mp b p hp with q | ⟨i, _, q2, q3, q4⟩
    · exact Nat.lt_of_lt_of_le q (X.monoN (Nat.zero_le _) (Nat.le_refl _)).1
    · exact Nat.lt_of_lt_of_le q4 (X.monoN (by omega) (Nat.le_refl _)).1
  have hrel := J.heap X
  rw [restr_of_low hml] at hrel
  have h0n := (X.monoN (Nat.zero_le all.length) (Nat.le_refl _)).1
  refine ⟨hE, ⟨J.x, h0n, hrel, J.size, J.frame, ?_, J.os, J.tape, J.output, fun b blk hb hg hof => (J.fz b blk hb hof).1 hg, fun b blk hb hg hof => (J.fz b blk hb hof).2 hg, fun _ => hml, J.fr⟩⟩
  intro b blk p hb hof hp hlt
  have hbn := X.lowN (Nat.le_refl _) b blk hb
  exact J.own b blk p ((J.c1 b p hp hbn).trans hb) hof hp hlt
end

theorem count_set {l : Array Bool} {i : Nat} (h : l.getD i true = false) : ((l.setIfInBounds i true).toList.count false) + 1 = l.toList.count false := by
  have hi : i < l.size := by
    rcases Nat.lt_or_ge i l.size with h1 | h1
    · exact h1
    · simp [Array.getD_eq_getD_getElem?, h1] at h
  have hv : l.toList[i] = false := by simpa [Array.getD_eq_getD_getElem?, hi] using h
  have : (l.setIfInBounds i true).toList = l.toList.set i true := by simp
  rw [this, List.count_set (by simpa using hi)]
  have hpos : 0 < l.toList.count false := List.count_pos_iff.2 (hv ▸ List.getElem_mem _)
  have e1 : (l.toList[i] == false) = true := by rw [hv]; rfl
  have e2 : ((true : Bool) == false) = false := rfl
  rw [if_pos e1, e2]
  simp only [Bool.false_eq_true, if_false]
  omega

section
variable {P : Program} {gl : Bool} {C : CallF} {N : Nat} {Q : Exit → Act → World → Prop}
theorem any_sound {all : List Oper} {e : Nat → Env} {h : Nat → Heap} {v : Nat → Value} {m0 : Mp} {w0 : World} {df : List Deferred} (X : Ctx P C N all e h v) (hC : CSound P gl C) (hg : GOK P gl m0) (hl0 : MLow m0 (h 0).n)
    (hok : (all.all fun o => o.op.operands.toList.all (okOpd P gl)) = true) (hq : ∀ m' a' w', ERel m' (e all.length) a' → Step m0 (h 0) w0 m' (h all.length) w' → a'.tmps.size = N → a'.defers = df → Q .normal a' w') :
    ∀ (fuel : Nat) (listed : Array Bool), listed.size = all.length → listed.toList.count false ≤ fuel → ∀ (nx : Nat) (env : Env) (a : Act) (m : Mp) (V : Heap) (w : World),
      Inv P N all e h m0 w0 df (fun j => listed.getD j false = true) nx env a m V w → wpAny P .any all.toArray Q fuel listed a w := by
  have fin : ∀ (listed : Array Bool), listed.size = all.length → ∀ (nx : Nat) (env : Env) (a : Act) (m : Mp) (V : Heap) (w : World), Inv P N all e h m0 w0 df (fun j => listed.getD j false = true) nx env a m V w →
      Region.ready .any all.toArray listed = [] → Q .normal a w := fun listed hsz nx env a m V w I hr => by
    have hall : ∀ i, i < all.length → listed.getD i false = true := by
      intro i
      induction i using Nat.strongRecOn with
      | _ i ih =>
        intro hi
        cases hb : listed.getD i false with
        | true => rfl
        | false =>
          have hmem : i ∈ Region.ready .any all.toArray listed := by
            rw [mem_ready]
            refine ⟨?_, all[i], by simp [hi], fun x hx hbx => ih x.on (X.parts.2.1 i _ (List.getElem?_eq_getElem hi) x hx hbx) ?_⟩
            · have : i < listed.size := by omega
              simp [Array.getD_eq_getD_getElem?, this] at hb ⊢
              exact hb
            · have := X.parts.2.1 i _ (List.getElem?_eq_getElem hi) x hx hbx; omega
          rw [hr] at hmem; cases hmem
    obtain ⟨q1, q2⟩ := I.last X hall hl0
    exact hq m a w q1 q2 I.asz I.adf
  intro fuel
  induction fuel with
  | zero =>
    intro listed hsz hcnt nx env a m V w I
    have hr : Region.ready .any all.toArray listed = [] := by
      cases hr : Region.ready .any all.toArray listed with
      | nil => rfl
      | cons i rest =>
        have hi : i ∈ Region.ready .any all.toArray listed := by rw [hr]; simp
        have := count_set (mem_ready.1 hi).1
        omega
    exact ⟨hr, fin listed hsz nx env a m V w I hr⟩
  | succ fuel ih =>
    intro listed hsz hcnt nx env a m V w I
    refine ⟨fin listed hsz nx env a m V w I, fun i hi => ?_⟩
    obtain ⟨hnl, o, ho, hrdy⟩ := mem_ready.1 hi
    have ho' : all[i]? = some o := by simpa using ho
    have hil : i < listed.size := by rw [hsz]; exact (List.getElem?_eq_some_iff.1 ho').1
    have hnD : ¬ listed.getD i false = true := by
      simp [Array.getD_eq_getD_getElem?, hil] at hnl ⊢
      exact hnl
    refine I.exec X hC hg hl0 ho' hnD hrdy (by rw [List.all_eq_true] at hok; exact hok o (List.mem_of_getElem? ho')) fun nx' env' a' m' V' w' I' => ?_
    refine ih _ (by simpa using hsz) (by have := count_set hnl; omega) nx' env' a' m' V' w' ?_
    have hD : (fun j => listed.getD j false = true ∨ j = i) = fun j => (listed.setIfInBounds i true).getD j false = true := by
      funext j
      apply propext
      by_cases hj : j = i
      · subst hj; simp [Array.getD_eq_getD_getElem?, hil]
      · simp [Array.getD_eq_getD_getElem?, Array.getElem?_setIfInBounds_ne (Ne.symm hj), hj]
    rw [← hD]
    exact I'

theorem aopsD_sound (hC : CSound P gl C) (hCM : CMono C) (hm : P.follows .mixedOrders = true) (all : List Oper) {id : Nat} {m : Mp} {env env' : Env} {H H' : Heap} {a : Act} {w : World} (hd : drawOk P N all (befs all []) = true)
    (h : aopsD P C N all (befs all []) all 0 [] [] env H = some (env', H')) (hg : GOK P gl m) (hE : ERel m env a) (hr : HRel m H w) (hlow : MLow m H.n) (hok : (all.all fun o => o.op.operands.toList.all (okOpd P gl)) = true) (hN : a.tmps.size = N)
    (hq : ∀ m' a' w', ERel m' env' a' → Step m H w m' H' w' → a'.tmps.size = N → a'.defers = a.defers → Q .normal a' w') : (Code.region id all.toArray true).wp P Q a w := by
  obtain ⟨e, hh, v, h1, h2, h3, h4, T⟩ := trace all 0 [] [] env H env' H' (by simp) h
  simp only [Nat.zero_add] at h3 h4 T
  have hHlow : Low H := hr.low
  have X : Ctx P C N all e hh v := ⟨T, hd, by rw [h2]; exact hHlow, hCM⟩
  subst h1 h2 h3 h4
  refine wp_region_any hm ?_
  have hrw : HRel m (hh 0) { w with drawn := w.drawn + 1 } := ⟨hr.low, hr.blk, hr.inj, hr.one, hr.froz⟩
  have hsz : (all.toArray : Array Oper).size = all.length := by simp
  rw [hsz]
  refine any_sound (w0 := { w with drawn := w.drawn + 1 }) (df := a.defers) X hC hg hlow hok (fun m' a' w' q1 q2 q3 q4 => hq m' a' w' q1 ⟨q2.ext, q2.hn, q2.rel, q2.size, q2.frame, q2.own, q2.os, q2.tape, q2.output, q2.old, q2.back, q2.keepLow, q2.fresh⟩ q3 q4) all.length (Array.replicate all.length false) (by simp) (by simp) 0 (e 0) a m (hh 0) { w with drawn := w.drawn + 1 } ?_
  have hno : ∀ j, ¬ ((Array.replicate all.length false).getD j false = true) := fun j => by
    simp [Array.getD_eq_getD_getElem?, Array.getElem?_replicate]
    split <;> simp
  refine { cl := fun j o _ hD => absurd hD (hno j), nxle := Nat.zero_le _, ahead := fun i o _ _ hlt => absurd hlt (Nat.not_lt_zero _), behind := fun i o _ _ _ => hno i, rel := hrw, ml := hlow, x := fun _ _ => rfl, mp := fun b p hp => .inl (hlow b p hp), c1 := fun _ _ _ _ => rfl, c2 := ?_, l1 := ?_, l2 := ?_, one := hr.one, fz := fun _ _ _ _ => Iff.rfl, fr := ?_, en := ?_, enF := ?_, size := Nat.le_refl _, frame := fun _ _ _ => rfl, own := fun b blk p q1 q2 q3 _ => ⟨b, blk, p, q1, q2, q3, rfl⟩, os := rfl, tape := rfl, output := rfl, asz := hN, adf := rfl }
  · intro b p hp hb; have := hlow b p hp; omega
  · intro k hk b p blk hp hb hv j y hy
    obtain rfl : k = 0 := by omega
    exact (hr.blk b blk p hv hp).loc hlow j y hy
  · intro b p blk hp hb; have := hlow b p hp; omega
  · intro b blk hb hgt; have := hr.low b blk hgt; omega
  · intro j o t hj hnD ht hall
    have he : e j t = e 0 t := X.envStay (Nat.zero_le _) (Nat.le_of_lt (List.getElem?_eq_some_iff.1 hj).1) fun k q _ h2 hk hd => hno k (hall k q h2 hk hd)
    refine ⟨he.symm, ?_⟩
    refine (hE t).mono ?_
    intro b p hp
    unfold restr
    rw [if_pos (Nat.lt_of_lt_of_le (hlow b p hp) (X.monoN (Nat.zero_le _) (Nat.le_of_lt (List.getElem?_eq_some_iff.1 hj).1)).1)]
    exact hp
  · intro t hall
    have he : e all.length t = e 0 t := X.envStay (Nat.zero_le _) (Nat.le_refl _) fun k q _ _ hk hd => hno k (hall k q hk hd)
    exact ⟨he.symm, hE t⟩

theorem aregion_sound (hC : CSound P gl C) (hCM : CMono C) (hm : P.follows .mixedOrders = true) {id : Nat} {ops : Array Oper} {draw : Bool} {m : Mp} {env env' : Env} {H H' : Heap} {a : Act} {w : World}
    (h : aregion P C N ops.toList draw env H = some (env', H')) (hg : GOK P gl m) (hE : ERel m env a) (hr : HRel m H w) (hlow : MLow m H.n) (hok : (ops.toList.all fun o => o.op.operands.toList.all (okOpd P gl)) = true) (hN : a.tmps.size = N)
    (hq : ∀ m' a' w', ERel m' env' a' → Step m H w m' H' w' → a'.tmps.size = N → a'.defers = a.defers → Q .normal a' w') : (Code.region id ops draw).wp P Q a w := by
  unfold aregion at h
  split at h
  · rename_i hd
    subst hd
    split at h
    case isFalse => cases h
    rename_i hd
    have := aopsD_sound (id := id) hC hCM hm ops.toList hd h hg hE hr hlow hok hN hq
    simpa using this
  · rename_i hd
    have hd : draw = false := by simpa using hd
    subst hd
    refine wp_region ?_
    have := aops_sound (Q := Q) hC ops.toList ops.toList 0 (by simp) h hg hE hr hlow hok hN hq
    simpa [List.range_eq_range'] using this
end

def exOf : AExit → Exit
  | .normal => .normal
  | .exit id => .exit id
  | .ret => .ret
def Post (m : Mp) (H : Heap) (w : World) (N : Nat) (d : List Deferred) (e : AExit) (env' : Env) (H' : Heap) : Exit → Act → World → Prop := fun x a' w' => x = exOf e ∧ ∃ m', ERel m' env' a' ∧ Step m H w m' H' w' ∧ a'.tmps.size = N ∧ a'.defers = d

theorem acode_sound {P : Program} {gl : Bool} {C : CallF} {N fuel : Nat} (hC : CSound P gl C) (hCM : CMono C) (hm : P.follows .mixedOrders = true) : ∀ (c : Code) {m : Mp} {env env' : Env} {H H' : Heap} {a : Act} {w : World} {e : AExit},
    acode P C fuel N c env H = some (e, env', H') → GOK P gl m → ERel m env a → HRel m H w → MLow m H.n → okCode P gl c = true → a.tmps.size = N → c.wp P (Post m H w N a.defers e env' H') a w := by
  intro c
  induction c with
  | skip =>
    intro m env env' H H' a w e h hg hE hr hlow hok hN
    simp only [acode, Option.some.injEq, Prod.mk.injEq] at h
    obtain ⟨rfl, rfl, rfl⟩ := h
    exact wp_skip ⟨rfl, m, hE, Step.refl hr, hN, rfl⟩
  | exit id =>
    intro m env env' H H' a w e h hg hE hr hlow hok hN
    simp only [acode, Option.some.injEq, Prod.mk.injEq] at h
    obtain ⟨rfl, rfl, rfl⟩ := h
    exact wp_exit ⟨rfl, m, hE, Step.refl hr, hN, rfl⟩
  | ret =>
    intro m env env' H H' a w e h hg hE hr hlow hok hN
    simp only [acode, Option.some.injEq, Prod.mk.injEq] at h
    obtain ⟨rfl, rfl, rfl⟩ := h
    exact wp_ret ⟨rfl, m, hE, Step.refl hr, hN, rfl⟩
  | region id ops draw =>
    intro m env env' H H' a w e h hg hE hr hlow hok hN
    simp only [acode] at h
    split at h
    case h_2 => cases h
    rename_i env1 H1 h1
    simp only [Option.some.injEq, Prod.mk.injEq] at h
    obtain ⟨rfl, rfl, rfl⟩ := h
    exact aregion_sound hC hCM hm h1 hg hE hr hlow (by simpa [okCode] using hok) hN (fun m' a' w' q1 q2 q3 q4 => ⟨rfl, m', q1, q2, q3, q4⟩)
  | seq x y ihx ihy =>
    intro m env env' H H' a w e h hg hE hr hlow hok hN
    simp only [okCode, Bool.and_eq_true] at hok
    simp only [acode] at h
    refine wp_seq ?_
    split at h
    · rename_i env1 H1 h1
      refine Code.wp_mono (fun x a' w' hp => ?_) (ihx h1 hg hE hr hlow hok.1 hN)
      obtain ⟨rfl, m1, q1, q2, q3, q4⟩ := hp
      have hle := q2.mle hlow
      have := ihy h (hg.mono hle) q1 q2.rel (q2.keepLow hlow) hok.2 q3
      refine Code.wp_mono (fun x a2 w2 hp => ?_) this
      obtain ⟨r1, m2, r2, r3, r4, r5⟩ := hp
      exact ⟨r1, m2, r2, q2.trans r3, r4, r5.trans q4⟩
    · rename_i r hn
      have hp := ihx h hg hE hr hlow hok.1 hN
      refine Code.wp_mono (fun x a' w' hp => ?_) hp
      obtain ⟨rfl, m1, q⟩ := hp
      cases e with
      | normal => exact absurd h (hn _ _)
      | exit id => exact ⟨rfl, m1, q⟩
      | ret => exact ⟨rfl, m1, q⟩
  | cond c x y ihx ihy =>
    intro m env env' H H' a w e h hg hE hr hlow hok hN
    simp only [okCode, Bool.and_eq_true] at hok
    simp only [acode] at h
    have hc := ev_sound hE hg hok.1.1
    split at h
    · rename_i ht
      rw [ht] at hc
      exact wp_cond_true hc.bool_inv (ihx h hg hE hr hlow hok.1.2 hN)
    · rename_i ht
      rw [ht] at hc
      exact wp_cond_false hc.bool_inv (ihy h hg hE hr hlow hok.2 hN)
    · cases h
  | block id body ih =>
    intro m env env' H H' a w e h hg hE hr hlow hok hN
    simp only [okCode] at hok
    simp only [acode] at h
    refine wp_block ?_
    split at h
    · rename_i i env1 H1 h1
      refine Code.wp_mono (fun x a' w' hp => ?_) (ih h1 hg hE hr hlow hok hN)
      obtain ⟨rfl, q⟩ := hp
      simp only [exOf, Exit.inBlock]
      split at h
      · rename_i hi
        simp only [Option.some.injEq, Prod.mk.injEq] at h
        obtain ⟨rfl, rfl, rfl⟩ := h
        rw [if_pos hi]; exact ⟨rfl, q⟩
      · rename_i hi
        simp only [Option.some.injEq, Prod.mk.injEq] at h
        obtain ⟨rfl, rfl, rfl⟩ := h
        rw [if_neg hi]; exact ⟨rfl, q⟩
    · rename_i r hn
      refine Code.wp_mono (fun x a' w' hp => ?_) (ih h hg hE hr hlow hok hN)
      obtain ⟨rfl, q⟩ := hp
      cases e with
      | normal => exact ⟨rfl, q⟩
      | exit id => exact absurd h (hn _ _ _)
      | ret => exact ⟨rfl, q⟩
  | loop body ih =>
    intro m env env' H H' a w e h hg hE hr hlow hok hN
    simp only [okCode] at hok
    simp only [acode] at h
    have key : ∀ (n : Nat) {m : Mp} {env env' : Env} {H H' : Heap} {a : Act} {w : World} {e : AExit}, aloop (acode P C fuel N body) n env H = some (e, env', H') → GOK P gl m → ERel m env a → HRel m H w → MLow m H.n → a.tmps.size = N →
        Code.rounds P body (Post m H w N a.defers e env' H') n a w := by
      intro n
      induction n with
      | zero => intro m env env' H H' a w e h; cases h
      | succ n ihn =>
        intro m env env' H H' a w e h hg hE hr hlow hN
        simp only [aloop] at h
        rw [rounds_succ]
        split at h
        · rename_i env1 H1 h1
          refine Code.wp_mono (fun x a' w' hp => ?_) (ih h1 hg hE hr hlow hok hN)
          obtain ⟨rfl, m1, q1, q2, q3, q4⟩ := hp
          have hle := q2.mle hlow
          have hR := ihn h (hg.mono hle) q1 q2.rel (q2.keepLow hlow) q3
          refine rounds_mono (fun e a w hp => ?_) n _ _ hR
          obtain ⟨r1, m2, r2, r3, r4, r5⟩ := hp
          exact ⟨r1, m2, r2, q2.trans r3, r4, r5.trans q4⟩
        · rename_i r hn
          refine Code.wp_mono (fun x a' w' hp => ?_) (ih h hg hE hr hlow hok hN)
          obtain ⟨rfl, q⟩ := hp
          cases e with
          | normal => exact absurd h (hn _ _)
          | exit id => exact ⟨rfl, q⟩
          | ret => exact ⟨rfl, q⟩
    exact wp_loop_rounds fuel (key fuel h hg hE hr hlow hN)
  | scope body ih =>
    intro m env env' H H' a w e h hg hE hr hlow hok hN
    simp only [okCode] at hok
    simp only [acode] at h
    refine wp_scope_straight (Code.wp_mono (fun x a' w' hp => ?_) (ih h hg hE hr hlow hok hN))
    obtain ⟨rfl, q⟩ := hp
    cases e with
    | normal => exact ⟨rfl, q⟩
    | exit id => exact ⟨rfl, q⟩
    | ret => exact ⟨rfl, q⟩
  | label l =>
    intro m env env' H H' a w e h hg hE hr hlow hok hN
    simp only [acode, Option.some.injEq, Prod.mk.injEq] at h
    obtain ⟨rfl, rfl, rfl⟩ := h
    exact wp_label ⟨rfl, m, hE, Step.refl hr, hN, rfl⟩
  | _ => intro m env env' H H' a w e h; simp only [acode] at h; cases h

end Go.Eng
