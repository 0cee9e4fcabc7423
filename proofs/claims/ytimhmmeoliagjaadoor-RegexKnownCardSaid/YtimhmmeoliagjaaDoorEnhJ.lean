import Derived.Test.YtimhmmeoliagjaaDoorEnhR
import Derived.Lib.MakeNoZero
set_option linter.unusedVariables false
namespace Go.Eng
open Go

def ExtSound (P : Program) (gl : Bool) (E : Ext) : Prop := ∀ f g, E f = some g → ∀ (args : List Value) (H : Heap) (v : Value) (H' : Heap), g args H = some (v, H') →
  ∀ (m : Mp) (w : World) (args' : List Value), LRel m args args' → HRel m H w → MLow m H.n → GOK P gl m →
    Calls P f args'.toArray w fun e w' => ∃ m' v', e = .returned v' ∧ VRel m' v v' ∧ Step m H w m' H' w'
def noExt : Ext := fun _ => none
theorem noExt_sound (P : Program) (gl : Bool) : ExtSound P gl noExt := fun f g h => by cases h

theorem resOne_sound {P : Program} {m : Mp} {env : Env} {a : Act} {H : Heap} {w : World} (hE : ERel m env a) (hr : HRel m H w) {r : ResultVar} {v : Value} (h : resOne P env H r = some v) :
    ∃ v', ((match r with | .tmp t => pure (a.tmps.getD t undef) | .cell b t => do loadVar t (← asAddr (a.tmps.getD b undef))) : Sem Value).run P w = .ok v' w ∧ VRel m v v' := by
  cases r with
  | tmp t =>
    simp only [resOne, Option.some.injEq] at h
    subst h
    exact ⟨_, rfl, hE t⟩
  | cell b t =>
    simp only [resOne] at h
    have hb := hE b
    have cv : ∀ {x : Value}, (Instr.loadAt t (a.tmps.getD b undef)).run P w = .ok x w → (do loadVar t (← asAddr (a.tmps.getD b undef)) : Sem Value).run P w = .ok x w := fun {x} hx => by
      unfold Instr.loadAt at hx
      generalize a.tmps.getD b undef = y at hx ⊢
      unfold Instr.sureAddr at hx
      cases y <;> first | (simp at hx; done) | skip
      rename_i o
      cases o <;> first | (simp at hx; done) | skip
      simpa [asAddr] using hx
    split at h
    · rename_i k ha hk
      simp only [Option.map_eq_some_iff] at h
      obtain ⟨x, hx, rfl⟩ := h
      obtain ⟨_, v', q1, q2⟩ := ldA_sound (P := P) (H' := x.2) hr hb (show ldA k (env b) H = some (x.1, x.2) from hx) ha hk
      exact ⟨v', cv q1, q2⟩
    · rename_i ha
      simp only [Option.map_eq_some_iff] at h
      obtain ⟨x, hx, rfl⟩ := h
      obtain ⟨_, v', q1, q2⟩ := ldC_sound (P := P) (H' := x.2) hr hb (show ldC (env b) H = some (x.1, x.2) from hx) ha
      exact ⟨v', cv q1, q2⟩
    · cases h
theorem resL_sound {P : Program} {m : Mp} {env : Env} {a : Act} {H : Heap} {w : World} (hE : ERel m env a) (hr : HRel m H w) : ∀ {rs : List ResultVar} {l : List Value}, resL P env H rs = some l →
    ∃ l', (rs.mapM (m := Sem) fun | .tmp t => pure (a.tmps.getD t undef) | .cell b t => do loadVar t (← asAddr (a.tmps.getD b undef))).run P w = .ok l' w ∧ LRel m l l'
  | [], l, h => by simp [resL] at h; subst h; exact ⟨[], by simp, LRel.nil⟩
  | r :: rs, l, h => by
    simp only [resL] at h
    split at h
    case h_2 => cases h
    rename_i v l0 hv hl
    simp only [Option.some.injEq] at h
    subst h
    obtain ⟨v', q1, q2⟩ := resOne_sound hE hr hv
    obtain ⟨l', r1, r2⟩ := resL_sound hE hr hl
    refine ⟨v' :: l', ?_, LRel.cons q2 r2⟩
    rw [List.mapM_cons]
    simp only [Sem.run_bind, q1, Result.andThen, r1, Sem.run_pure]
theorem one_sound {m : Mp} {l l' : List Value} (h : LRel m l l') : VRel m (one l) (if h : l'.toArray.size = 1 then l'.toArray[0] else .tuple l'.toArray) := by
  unfold one
  split
  · rename_i v
    obtain ⟨v', r', rfl, h1, h2⟩ := h.cases_cons
    obtain rfl := h2.cases_nil
    simpa using h1
  · rename_i hn
    have : ¬ l'.toArray.size = 1 := by
      intro he
      have hl : l.length = 1 := by rw [h.1]; simpa using he
      match l, hl with
      | [v], _ => exact hn v rfl
    rw [dif_neg this]
    exact .tuple' (by simpa using h)
theorem results_sound {P : Program} {m : Mp} {env : Env} {a : Act} {H H' : Heap} {w : World} {fn : Func} {v : Value} (hE : ERel m env a) (hr : HRel m H w) (h : Eng.results P fn env H = some (v, H')) :
    H' = H ∧ ∃ v', (Go.results fn a.tmps).run P w = .ok v' w ∧ VRel m v v' := by
  unfold Eng.results at h
  simp only [Option.map_eq_some_iff, Prod.mk.injEq] at h
  obtain ⟨l, hl, rfl, rfl⟩ := h
  obtain ⟨l', q1, q2⟩ := resL_sound hE hr hl
  refine ⟨rfl, _, ?_, one_sound q2⟩
  unfold Go.results
  rw [Array.mapM_eq_mapM_toList]
  simp only [Sem.run_bind, Sem.run_map]
  erw [q1]
  simp only [Result.andThen, Sem.run_pure]

def ExtMono (E : Ext) : Prop := ∀ f g, E f = some g → CMono (fun _ => g)
theorem noExt_mono : ExtMono noExt := fun f g h => by cases h
theorem aops_mono {P : Program} {C : CallF} {N : Nat} (hC : CMono C) (all : List Oper) : ∀ (l : List Oper) {env env' : Env} {H H' : Heap}, aops P C N all l env H = some (env', H') → Mono H H'
  | [], env, env', H, H', h => by simp only [aops, Option.some.injEq, Prod.mk.injEq] at h; rw [h.2]; exact Mono.refl _
  | o :: l, env, env', H, H', h => by
    simp only [aops] at h
    split at h
    · split at h
      · rename_i v H1 hv
        exact (aop_mono hC hv).trans (aops_mono hC all l h)
      · cases h
    · exact aops_mono hC all l h
theorem aopsD_mono {P : Program} {C : CallF} {N : Nat} (hC : CMono C) (all : List Oper) (bf : List Nat) : ∀ (l : List Oper) {i : Nat} {acts : List (Nat × Heap × Heap)} {reads : List (Nat × Option Nat)} {env env' : Env} {H H' : Heap}, aopsD P C N all bf l i acts reads env H = some (env', H') → Mono H H'
  | [], i, acts, reads, env, env', H, H', h => by simp only [aopsD, Option.some.injEq, Prod.mk.injEq] at h; rw [h.2]; exact Mono.refl _
  | o :: l, i, acts, reads, env, env', H, H', h => by
    simp only [aopsD] at h
    split at h
    · split at h
      · split at h
        · split at h
          · rename_i v H1 hv
            exact (aop_mono hC hv).trans (aopsD_mono hC all bf l h)
          · cases h
        · cases h
      · split at h
        · split at h
          · rename_i v H1 hv _
            exact (aop_mono hC hv).trans (aopsD_mono hC all bf l h)
          · cases h
        · cases h
      · split at h
        · rename_i v H1 hv
          exact (aop_mono hC hv).trans (aopsD_mono hC all bf l h)
        · cases h
      · split at h
        · rename_i v H1 hv
          exact (aop_mono hC hv).trans (aopsD_mono hC all bf l h)
        · cases h
    · exact aopsD_mono hC all bf l h
theorem acode_mono {P : Program} {C : CallF} {N fuel : Nat} (hC : CMono C) : ∀ (c : Code) {env env' : Env} {H H' : Heap} {e : AExit}, acode P C fuel N c env H = some (e, env', H') → Mono H H' := by
  intro c
  induction c with
  | skip => intro env env' H H' e h; simp only [acode, Option.some.injEq, Prod.mk.injEq] at h; rw [h.2.2]; exact Mono.refl _
  | exit id => intro env env' H H' e h; simp only [acode, Option.some.injEq, Prod.mk.injEq] at h; rw [h.2.2]; exact Mono.refl _
  | ret => intro env env' H H' e h; simp only [acode, Option.some.injEq, Prod.mk.injEq] at h; rw [h.2.2]; exact Mono.refl _
  | region id ops draw =>
    intro env env' H H' e h
    simp only [acode] at h
    split at h
    case h_2 => cases h
    rename_i env1 H1 h1
    simp only [Option.some.injEq, Prod.mk.injEq] at h
    obtain ⟨_, _, rfl⟩ := h
    unfold aregion at h1
    split at h1
    · split at h1
      · exact aopsD_mono hC _ _ _ h1
      · cases h1
    · exact aops_mono hC _ _ h1
  | seq x y ihx ihy =>
    intro env env' H H' e h
    simp only [acode] at h
    split at h
    · rename_i env1 H1 h1
      exact (ihx h1).trans (ihy h)
    · exact ihx h
  | cond c x y ihx ihy =>
    intro env env' H H' e h
    simp only [acode] at h
    split at h
    · exact ihx h
    · exact ihy h
    · cases h
  | block id body ih =>
    intro env env' H H' e h
    simp only [acode] at h
    split at h
    · rename_i i env1 H1 h1
      split at h
      · simp only [Option.some.injEq, Prod.mk.injEq] at h
        obtain ⟨_, _, rfl⟩ := h
        exact ih h1
      · simp only [Option.some.injEq, Prod.mk.injEq] at h
        obtain ⟨_, _, rfl⟩ := h
        exact ih h1
    · exact ih h
  | loop body ih =>
    intro env env' H H' e h
    simp only [acode] at h
    have key : ∀ (n : Nat) {env env' : Env} {H H' : Heap} {e : AExit}, aloop (acode P C fuel N body) n env H = some (e, env', H') → Mono H H' := by
      intro n
      induction n with
      | zero => intro env env' H H' e h; cases h
      | succ n ihn =>
        intro env env' H H' e h
        simp only [aloop] at h
        split at h
        · rename_i env1 H1 h1
          exact (ih h1).trans (ihn h)
        · exact ih h
    exact key fuel h
  | scope body ih => intro env env' H H' e h; simp only [acode] at h; exact ih h
  | label l => intro env env' H H' e h; simp only [acode, Option.some.injEq, Prod.mk.injEq] at h; rw [h.2.2]; exact Mono.refl _
  | _ => intro env env' H H' e h; simp only [acode] at h; cases h
theorem numOf_flat : ∀ {l : List Value} {xs : List Int}, l.mapM numOf = some xs → l = xs.map (Value.int .u8)
  | [], xs, h => by simp at h; subst h; rfl
  | v :: l, xs, h => by
    rw [List.mapM_cons] at h
    cases hv : numOf v with
    | none => simp [hv] at h
    | some c =>
      cases hl : l.mapM numOf with
      | none => simp [hv, hl] at h
      | some r =>
        simp [hv, hl] at h
        subst h
        unfold numOf at hv
        split at hv
        · simp only [Option.some.injEq] at hv
          subst hv
          rw [numOf_flat hl]; rfl
        · cases hv
theorem addX_inv {args : List Value} {H H' : Heap} {v : Value} (h : addX args H = some (v, H')) : ∃ x y c : Int, args = [.int .u64 x, .int .u64 y, .int .u64 c] ∧ 0 ≤ x ∧ 0 ≤ y ∧ 0 ≤ c ∧ c ≤ 1 ∧ v = .tuple #[.int .u64 ((x + y + c) % 18446744073709551616), .int .u64 ((x + y + c) / 18446744073709551616)] ∧ H' = H := by
  unfold addX at h
  split at h
  · rename_i x y c
    split at h
    · rename_i hc
      simp only [Option.some.injEq, Prod.mk.injEq] at h
      exact ⟨x, y, c, rfl, hc.1, hc.2.1, hc.2.2.1, hc.2.2.2, h.1.symm, h.2.symm⟩
    · cases h
  · cases h
theorem idxX_same {args : List Value} {H H' : Heap} {v : Value} (h : idxX args H = some (v, H')) : H' = H := by
  unfold idxX at h
  split at h
  · simp only [Option.some.injEq, Prod.mk.injEq] at h; exact h.2.symm
  · split at h
    · split at h
      · simp only [Option.some.injEq, Prod.mk.injEq] at h; exact h.2.symm
      · cases h
    · cases h
  · cases h
theorem mkX_inv {P : Program} {fn : Func} {args : List Value} {H H' : Heap} {v : Value} (h : mkX P fn args H = some (v, H')) : ∃ (n : Nat) (t e : TypeId), args = [.int .i64 (n : Int)] ∧ fn.resultTypes.toList = [t] ∧ P.underlying t = some (.slice e) ∧ n ≤ 140737488355328 ∧ v = .slice (some ⟨H.n, 0, none⟩) n n ∧ H' = H.push ⟨List.replicate n junkV, 1, true⟩ := by
  unfold mkX at h
  split at h
  · rename_i n t ht
    split at h
    · rename_i e hu
      split at h
      · rename_i hc
        unfold newS at h
        split at h
        · simp only [Option.some.injEq, Prod.mk.injEq] at h
          obtain ⟨k, rfl⟩ := Int.eq_ofNat_of_zero_le hc.1
          exact ⟨k, t, e, rfl, ht, hu, by omega, h.1.symm, h.2.symm⟩
        · cases h
      · cases h
    · cases h
  · cases h
theorem digits_get : ∀ (n t : Nat) (acc : Array Value), (∀ (i : Nat) (v : Value), acc[i]? = some v → ∃ z : Int, v = Value.int .u8 z) → ∀ (i : Nat) (v : Value), (Extern.BytealgMakeNoZero.digits n t acc)[i]? = some v → ∃ z : Int, v = Value.int .u8 z
  | 0, _, acc, h => h
  | n + 1, t, acc, h => by
    rw [Extern.BytealgMakeNoZero.digits]
    refine digits_get n _ _ fun i v hv => ?_
    rw [Array.getElem?_push] at hv
    split at hv
    · injection hv with hv; exact ⟨_, hv.symm⟩
    · exact h i v hv
theorem run_mkNZ {P : Program} (w : World) (ps : Array TypeId) (t e : TypeId) (ht : P.underlying t = some (.slice e)) (n : Nat) (hn : n ≤ 281474976710656) :
    ∃ (cs : Array Value) (w1 : World), (Extern.BytealgMakeNoZero.makeNoZero ps #[t] #[.int .i64 n]).run P w = .ok (.slice (some ⟨w.heap.size, 0, none⟩) n cs.size) w1 ∧ n ≤ cs.size ∧ (∀ (i : Nat) (v : Value), cs[i]? = some v → ∃ z : Int, v = Value.int .u8 z) ∧
      w1.heap = w.heap.push (.cells cs e (0, 0)) ∧ w1.os = w.os ∧ w1.tape = w.tape ∧ w1.output = w.output := by
  have h1 : ¬ (n : Int) < 0 := by omega
  have h2 : ¬ (281474976710656 : Int) < (n : Int) := by omega
  refine ⟨Extern.BytealgMakeNoZero.digits (grownCap w n 0 e) ((Question.extern "internal/bytealg.MakeNoZero.bytes" 0).cut (w.tape (w.drawn + 1) (.extern "internal/bytealg.MakeNoZero.bytes" 0))) #[], w.drew.drew.alloc (.cells (Extern.BytealgMakeNoZero.digits (grownCap w n 0 e) ((Question.extern "internal/bytealg.MakeNoZero.bytes" 0).cut (w.tape (w.drawn + 1) (.extern "internal/bytealg.MakeNoZero.bytes" 0))) #[]) e), ?_, ?_, digits_get _ _ _ (fun i v h => by simp at h), rfl, rfl, rfl, rfl⟩
  · show Sem.run P (underlying t >>= _) w = _
    simp [run_underlying ht, h1, h2, Question.forced, newRow, Lib.size_digits, grownCap]
  · rw [Lib.size_digits]
    simpa using grownCap_ge w n 0 e
theorem externX_mono {P : Program} {fn : Func} {args : List Value} {H H' : Heap} {v : Value} (h : externX P fn args H = some (v, H')) : Mono H H' := by
  unfold externX at h
  split at h
  · rw [idxX_same h]; exact Mono.refl _
  · split at h
    · obtain ⟨_, _, _, _, _, _, _, _, _, h⟩ := addX_inv h; rw [h]; exact Mono.refl _
    · split at h
      · obtain ⟨_, _, _, _, _, _, _, _, h⟩ := mkX_inv h; rw [h]; exact Mono.push _ _
      · cases h
theorem find_index {fn : Func} (h : fn.name = "internal/bytealg.IndexByte" ∨ fn.name = "internal/bytealg.IndexByteString") : Extern.find fn = some Extern.BytealgIndexByte.indexByte := by
  unfold Extern.find
  rcases h with h | h
  · simp only [h]; rfl
  · simp only [h]; rfl
theorem externX_sound {P : Program} {f : FuncId} {fn : Func} {m : Mp} {H H' : Heap} {w : World} {args args' : List Value} {v : Value} (hf : P.funcs[f]? = some fn) (hn : (fn.name == "runtime.NumGoroutine") = false) (hb : fn.body = none)
    (hr : HRel m H w) (hl : MLow m H.n) (ha : LRel m args args') (h : externX P fn args H = some (v, H')) : ∃ m' v' w', (callFunc f args'.toArray).run P w = .ok (.value v') w' ∧ VRel m' v v' ∧ Step m H w m' H' w' := by
  unfold externX at h
  split at h
  case isFalse =>
    split at h
    case isFalse =>
      split at h
      case isFalse => cases h
      rename_i hc
      simp only [Bool.and_eq_true, beq_iff_eq, Option.isNone_iff_eq_none] at hc
      obtain ⟨n, t, e, rfl, ht, hu, hn', rfl, rfl⟩ := mkX_inv h
      have hrt : fn.resultTypes = #[t] := by rw [← Array.toArray_toList (xs := fn.resultTypes), ht]
      have hfind : Extern.find fn = some (Extern.BytealgMakeNoZero.makeNoZero fn.params #[t]) := by
        unfold Extern.find
        simp only [hc.1, hrt]; rfl
      obtain ⟨x', r, rfl, q1, q2⟩ := ha.cases_cons
      obtain rfl := q2.cases_nil
      obtain rfl := q1.int_inv
      obtain ⟨cs, w1, hrun, hsz, hcs, hw, hos, htp, hout⟩ := run_mkNZ (P := P) w fn.params t e hu n (by omega)
      have hcl : cs.toList.length = cs.size := by simp
      refine ⟨mput m H.n ⟨w.heap.size, 0, cs.size - n⟩, .slice (some ⟨w.heap.size, 0, none⟩) n cs.size, w1, ?_, ?_, Step.new hr hl (l' := cs.toList.take n) (cs := cs) (e := e) (fr := (0, 0)) (sz := 1) (room := cs.size - n) ?_ ?_ ?_ ?_ (.inl rfl) hw hos htp hout⟩
      · rw [run_callFunc_extern hf hn (by simp [hb]) hc.2 hfind]
        rw [show ([Value.int .i64 (n : Int)].toArray) = #[Value.int .i64 (n : Int)] from rfl, hrun]
        rfl
      · exact .slc (p := ⟨w.heap.size, 0, cs.size - n⟩) (by simp [mput]) hsz (by simp only; omega) (Nat.le_refl _)
      · refine ⟨by simp; omega, fun i v v' h1 h2 => ?_⟩
        rw [List.getElem?_take] at h2
        split at h2
        · obtain ⟨z, rfl⟩ := hcs i v' (by simpa using h2)
          have hi : i < n := ‹_›
          rw [List.getElem?_replicate, if_pos hi] at h1
          injection h1 with h1
          subst h1
          exact .junk
        · cases h2
      · simp [junkV, oneC, Value.oneCell']
      · simp; omega
      · intro i v h2
        rw [List.getElem?_take] at h2
        split at h2
        · simpa using h2
        · cases h2
    rename_i hc
    simp only [Bool.and_eq_true, beq_iff_eq, Option.isNone_iff_eq_none] at hc
    have hfind : Extern.find fn = some add64Entry := by
      unfold Extern.find
      simp only [hc.1]; rfl
    obtain ⟨x, y, c, rfl, hx, hy, h0, h1, rfl, rfl⟩ := addX_inv h
    obtain ⟨x', r, rfl, q1, q2⟩ := ha.cases_cons
    obtain ⟨y', r, rfl, q3, q4⟩ := q2.cases_cons
    obtain ⟨c', r, rfl, q5, q6⟩ := q4.cases_cons
    obtain rfl := q6.cases_nil
    obtain rfl := q1.int_inv
    obtain rfl := q3.int_inv
    obtain rfl := q5.int_inv
    refine ⟨m, _, w, ?_, VRel.tuple' (LRel.cons (.flat (by rfl)) (LRel.cons (.flat (by rfl)) LRel.nil)), Step.refl hr⟩
    rw [run_callFunc_extern hf hn (by simp [hb]) hc.2 hfind]
    rw [show (#[Value.int .u64 x, .int .u64 y, .int .u64 c] : Array Value) = [Value.int .u64 x, .int .u64 y, .int .u64 c].toArray from rfl] at *
    rw [show ([Value.int .u64 x, .int .u64 y, .int .u64 c].toArray) = #[Value.int .u64 x, .int .u64 y, .int .u64 c] from rfl, run_add64 x y c hx hy h0 h1]
    rfl
  rename_i hc
  simp only [Bool.and_eq_true, Bool.or_eq_true, beq_iff_eq, Option.isNone_iff_eq_none] at hc
  have hfind := find_index hc.1
  obtain rfl := idxX_same h
  have key : ∀ {u : Value}, (Extern.BytealgIndexByte.indexByte args'.toArray).run P w = .ok u w → (callFunc f args'.toArray).run P w = .ok (.value u) w := fun {u} hu => by
    rw [run_callFunc_extern hf hn (by simp [hb]) hc.2 hfind, hu]; rfl
  unfold idxX at h
  split at h
  · rename_i s c
    simp only [Option.some.injEq, Prod.mk.injEq] at h
    obtain ⟨rfl, _⟩ := h
    obtain ⟨x, r, rfl, h1, h2⟩ := ha.cases_cons
    obtain ⟨y, r, rfl, h3, h4⟩ := h2.cases_cons
    obtain rfl := h4.cases_nil
    obtain rfl := h1.string_inv
    obtain rfl := h3.int_inv
    exact ⟨m, _, w, key (Lib.run_indexByteString s c w), .flat rfl, Step.refl hr⟩
  · rename_i a n k c
    obtain ⟨x, r, rfl, h1, h2⟩ := ha.cases_cons
    obtain ⟨y, r, rfl, h3, h4⟩ := h2.cases_cons
    obtain rfl := h4.cases_nil
    obtain rfl := h3.int_inv
    split at h
    case h_2 => cases h
    rename_i n' cs hadd
    split at h
    case h_2 => cases h
    rename_i xs hxs
    simp only [Option.some.injEq, Prod.mk.injEq] at h
    obtain ⟨rfl, _⟩ := h
    have hcs := numOf_flat hxs
    cases a with
    | none =>
      obtain ⟨hn0, _, rfl⟩ := h1.slice_nil_inv
      have hcs0 : cs = [] := by
        simp only [addend, if_pos hn0, Option.some.injEq, Prod.mk.injEq] at hadd
        exact hadd.2.symm
      subst hcs0
      have hx0 : xs = [] := by cases xs with | nil => rfl | cons a l => simp at hcs
      subst hx0
      exact ⟨m, _, w, key (by simpa [Lib.bytesOf, Lib.indexByte] using Lib.run_indexByteNil (P := P) (w := w) _ _ c), .flat rfl, Step.refl hr⟩
    | some a =>
      obtain ⟨b, o, sp⟩ := a
      simp only [addend] at hadd
      rcases h1.slice_inv with ⟨rfl, _, a', rfl⟩ | ⟨p, cap', hp, rfl, g1, g2, g3, g4⟩
      · simp only [if_true, Option.some.injEq, Prod.mk.injEq] at hadd
        obtain ⟨_, rfl⟩ := hadd
        have hx0 : xs = [] := by cases xs with | nil => rfl | cons a l => simp at hcs
        subst hx0
        exact ⟨m, .int .i64 (-1), w, key (by rfl), .flat rfl, Step.refl hr⟩
      · by_cases hn0 : n = 0
        · subst hn0
          simp only [if_true, Option.some.injEq, Prod.mk.injEq] at hadd
          obtain ⟨_, rfl⟩ := hadd
          have hx0 : xs = [] := by cases xs with | nil => rfl | cons a l => simp at hcs
          subst hx0
          exact ⟨m, .int .i64 (-1), w, key (by rfl), .flat rfl, Step.refl hr⟩
        · rw [if_neg hn0] at hadd
          split at hadd
          case h_2 => cases hadd
          rename_i blk hblk
          split at hadd
          case isFalse => cases hadd
          rename_i hle
          simp only [Option.some.injEq, Prod.mk.injEq] at hadd
          obtain ⟨_, rfl⟩ := hadd
          obtain ⟨l', hl, hrel, hcell⟩ := hr.cells hblk hp hle
          have hl' : l' = xs.map (Value.int .u8) := by
            rw [hcs] at hrel
            exact hrel.eq_flat (by simp [flat1])
          have hxl : xs.length = n := by
            have := congrArg List.length hl'
            simp at this; omega
          refine ⟨m, _, w, key (Lib.run_indexByteSlice (P := P) (w := w) p.blk (p.off + o) n cap' xs hxl (fun i hi => ?_) c), .flat rfl, Step.refl hr⟩
          refine hcell i _ ?_
          rw [hl', List.getElem?_map, List.getD_eq_getElem?_getD, List.getElem?_eq_getElem (by omega)]
          rfl
  · cases h
theorem acall_mono {P : Program} {gl : Bool} {E : Ext} (hE : ExtMono E) : ∀ n, CMono (acall P gl E n)
  | 0 => fun f args H v H' h => by cases h
  | n + 1 => fun f args H v H' h => by
    unfold acall at h
    split at h
    · cases h
    · split at h
      case h_2 => exact externX_mono h
      case h_3 => cases h
      split at h
      · rename_i g hg
        exact hE f g hg f args H v H' h
      · split at h
        · cases h
        · have fin : ∀ {fn : Func} {env : Env} {H1 : Heap}, Eng.results P fn env H1 = some (v, H') → H' = H1 := fun hr => by
            unfold Eng.results at hr
            simp only [Option.map_eq_some_iff, Prod.mk.injEq] at hr
            obtain ⟨_, _, _, rfl⟩ := hr
            rfl
          split at h
          · rename_i env1 H1 h1
            rw [fin h]; exact acode_mono (acall_mono hE n) _ h1
          · rename_i env1 H1 h1
            rw [fin h]; exact acode_mono (acall_mono hE n) _ h1
          · cases h

theorem acall_sound {P : Program} {gl : Bool} {E : Ext} (hm : P.follows .mixedOrders = true) (hE : ExtSound P gl E) (hEM : ExtMono E) : ∀ n, CSound P gl (acall P gl E n)
  | 0 => fun f args H v H' h => by cases h
  | n + 1 => fun f args H v H' h m w args' ha hr hlow hg => by
    unfold acall at h
    split at h
    · cases h
    · rename_i fn hf
      split at h
      case h_2 =>
        rename_i hname hb
        exact .inr (externX_sound hf hname hb hr hlow ha h)
      case h_3 => cases h
      rename_i c hname hb
      have hen : (callFunc f args'.toArray).run P w = .ok (.enter f args'.toArray) w := by
        have hn : ¬ fn.name = "runtime.NumGoroutine" := by simpa using hname
        simp [callFunc, hf, hn, hb]
      refine .inl ⟨hen, ?_⟩
      split at h
      · rename_i g hg'
        exact hE f g hg' args H v H' h m w args' ha hr hlow hg
      · split at h
        · cases h
        · rename_i hok
          have hok : okCode P gl c = true := by simpa using hok
          have hsz : ({ tmps := args'.toArray ++ Array.replicate (fn.ntmps - args'.toArray.size) undef, defers := [] } : Act).tmps.size = max args.length fn.ntmps := by
            simp [ha.1]; omega
          have hER : ERel m (env0 args) { tmps := args'.toArray ++ Array.replicate (fn.ntmps - args'.toArray.size) undef, defers := [] } := by
            intro t
            simp only [env0, Array.getD_eq_getD_getElem?, List.getD_eq_getElem?_getD]
            by_cases ht : t < args'.length
            · have ht' : t < args.length := by rw [ha.1]; exact ht
              rw [Array.getElem?_append_left (by simpa using ht)]
              simp only [List.getElem?_toArray, List.getElem?_eq_getElem ht, List.getElem?_eq_getElem ht', Option.getD_some]
              exact ha.2 t _ _ (List.getElem?_eq_getElem ht') (List.getElem?_eq_getElem ht)
            · have ht' : ¬ t < args.length := by rw [ha.1]; exact ht
              rw [List.getElem?_eq_none (Nat.le_of_not_lt ht'), Array.getElem?_append_right (by simpa using Nat.le_of_not_lt ht)]
              have : ((Array.replicate (fn.ntmps - args'.toArray.size) undef)[t - args'.toArray.size]?).getD undef = undef := by
                rw [Array.getElem?_replicate]; split <;> rfl
              rw [this]
              exact VRel.undef
          have fin : ∀ (e : AExit) (env' : Env) (H1 : Heap), acode P (acall P gl E n) n (max args.length fn.ntmps) c (env0 args) H = some (e, env', H1) → (e = .normal ∨ e = .ret) → Eng.results P fn env' H1 = some (v, H') →
              Calls P f args'.toArray w fun e w' => ∃ m' v', e = .returned v' ∧ VRel m' v v' ∧ Step m H w m' H' w' := fun e env' H1 he hee hres => by
            have hcode := acode_sound (acall_sound hm hE hEM n) (acall_mono hEM n) hm c he hg hER hr hlow hok hsz
            refine calls_of_wp hf hb (Code.wp_mono (fun x a' w' hp => ?_) hcode)
            obtain ⟨rfl, m', q1, q2, q3, q4⟩ := hp
            obtain ⟨rfl, v', r1, r2⟩ := results_sound q1 q2.rel hres
            rcases hee with rfl | rfl
            · exact ⟨q4, v', r1, m', v', rfl, r2, q2⟩
            · exact ⟨q4, v', r1, m', v', rfl, r2, q2⟩
          split at h
          · rename_i env' H1 he
            exact fin _ env' H1 he (.inl rfl) h
          · rename_i env' H1 he
            exact fin _ env' H1 he (.inr rfl) h
          · cases h

theorem enters {P : Program} {f : FuncId} {fn : Func} (hf : P.funcs[f]? = some fn) (hn : (fn.name == "runtime.NumGoroutine") = false) (hb : fn.body.isSome = true) (args : Array Value) (w : World) : (callFunc f args).run P w = .ok (.enter f args) w := by
  have hn : ¬ fn.name = "runtime.NumGoroutine" := by simpa using hn
  have hb' : ¬ fn.body = none := by intro h; rw [h] at hb; cases hb
  simp [callFunc, hf, hn, hb']
theorem acall_calls {P : Program} {gl : Bool} {E : Ext} (hm : P.follows .mixedOrders = true) (hE : ExtSound P gl E) (hEM : ExtMono E) {f : FuncId} {fn : Func} (hf : P.funcs[f]? = some fn) (hn : (fn.name == "runtime.NumGoroutine") = false) (hb : fn.body.isSome = true)
    {n : Nat} {args : List Value} {H : Heap} {v : Value} {H' : Heap} (h : acall P gl E n f args H = some (v, H')) {m : Mp} {w : World} {args' : List Value} (ha : LRel m args args') (hr : HRel m H w) (hl : MLow m H.n) (hg : GOK P gl m) :
    Calls P f args'.toArray w fun e w' => ∃ m' v', e = .returned v' ∧ VRel m' v v' ∧ Step m H w m' H' w' := by
  rcases acall_sound hm hE hEM n f args H v H' h m w args' ha hr hl hg with ⟨_, h1⟩ | ⟨m', v', w', h1, _⟩
  · exact h1
  · rw [enters hf hn hb] at h1; cases h1

end Go.Eng
