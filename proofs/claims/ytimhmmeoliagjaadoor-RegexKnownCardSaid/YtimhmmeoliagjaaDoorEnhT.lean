import Derived.Test.YtimhmmeoliagjaaDoorEnhS
set_option linter.unusedVariables false
namespace Go.Eng
open Go

abbrev Kont (α : Type) := AExit → Env → Heap → Option α
def wd (v : Value) (want : Bool) : Bool := match v with | .bool b => b == want | _ => false
def gd (w : Bool) (x : Option (Value × Heap)) (H : Heap) : Option (Value × Heap) := if w then x else some (undef, H)
def iff {α : Type} (v : Value) (a b : Option α) : Option α := match v with | .bool true => a | .bool false => b | _ => none
def chk {α : Type} (b : Bool) (x : Option α) : Option α := if b then x else none
structure Seam (α : Type) where
  b : Option (Value × Heap) → (Value → Heap → Option α) → Option α
  i : Value → Option α → Option α → Option α
  c : Bool → Option α → Option α
def real {α : Type} : Seam α := ⟨bnd, iff, chk⟩
theorem real_b {α : Type} : (real : Seam α).b = bnd := of_eq_true (eq_self _)
theorem real_i {α : Type} : (real : Seam α).i = iff := of_eq_true (eq_self _)
theorem real_c {α : Type} : (real : Seam α).c = chk := of_eq_true (eq_self _)
def plainOf (o : Oper) : Option Operand :=
  match o.guard with
  | none => match o.op with | .move x => some x | .assign x => some x | _ => none
  | some _ => none
def wantK (all : List Oper) (o : Oper) (env : Env) : Bool :=
  match o.guard with
  | none => true
  | some (j, want) =>
    match (all[j]?).bind (·.dst) with
    | some d => wd (env d) want
    | none => false
def opK (P : Program) (C : CallF) (all : List Oper) (o : Oper) (env : Env) (H : Heap) : Option (Value × Heap) :=
  match o.guard with
  | none => aop P C env o.op H
  | some _ => gd (wantK all o env) (aop P C env o.op H) H

def aopsK {α : Type} (S : Seam α) (P : Program) (C : CallF) (N : Nat) (all : List Oper) : List Oper → Env → Heap → (Env → Heap → Option α) → Option α
  | [], env, H, k => k env H
  | o :: rest, env, H, k =>
    match plainOf o with
    | some x => aopsK S P C N all rest (putE N env o.dst (ev env x)) H k
    | none => S.b (opK P C all o env H) fun v H' => aopsK S P C N all rest (putE N env o.dst v) H' k
noncomputable def aopsDK {α : Type} (S : Seam α) (P : Program) (C : CallF) (N : Nat) (all : List Oper) (bf : List Nat) : List Oper → Nat → List (Nat × Bool × Heap × Heap) → List (Nat × Option Nat) → Env → Heap → (Env → Heap → Option α) → Option α
  | [], _, _, _, env, H, k => k env H
  | o :: rest, i, acts, reads, env, H, k =>
    match kindOf P o.op with
    | .read => S.c (!wantK all o env || acts.all fun x => ordered bf x.1 i || !x.2.1 || sameBlk x.2.2.1 x.2.2.2 (readBlk env o.op))
        (S.b (opK P C all o env H) fun v H' => aopsDK S P C N all bf rest (i + 1) acts ((i, if wantK all o env then readBlk env o.op else none) :: reads) (putE N env o.dst v) H' k)
    | .act => S.b (opK P C all o env H) fun v H' =>
        S.c (!wantK all o env || reads.all fun x => ordered bf x.1 i || sameBlk H H' x.2) (aopsDK S P C N all bf rest (i + 1) ((i, wantK all o env, H, H') :: acts) reads (putE N env o.dst v) H' k)
    | .make => S.b (opK P C all o env H) fun v H' => aopsDK S P C N all bf rest (i + 1) acts ((i, if wantK all o env then some H.n else none) :: reads) (putE N env o.dst v) H' k
    | .pure =>
      match plainOf o with
      | some x => aopsDK S P C N all bf rest (i + 1) acts reads (putE N env o.dst (ev env x)) H k
      | none => S.b (opK P C all o env H) fun v H' => aopsDK S P C N all bf rest (i + 1) acts reads (putE N env o.dst v) H' k
noncomputable def aregionK {α : Type} (S : Seam α) (P : Program) (C : CallF) (N : Nat) (ops : List Oper) (draw : Bool) (env : Env) (H : Heap) (k : Env → Heap → Option α) : Option α :=
  if draw then (if drawOk P N ops (befs ops []) then aopsDK S P C N ops (befs ops []) ops 0 [] [] env H k else none) else aopsK S P C N ops ops env H k
def onNormal {α : Type} (f : Env → Heap → Option α) (k : Kont α) : Kont α := fun e env H => match e with
  | .normal => f env H
  | e => k e env H
def onBlock {α : Type} (id : Nat) (k : Kont α) : Kont α := fun e env H => match e with
  | .exit i => if i = id then k .normal env H else k (.exit i) env H
  | e => k e env H
def aloopK {α : Type} (f : Env → Heap → Kont α → Option α) : Nat → Env → Heap → Kont α → Option α
  | 0, _, _, _ => none
  | n + 1, env, H, k => f env H (onNormal (fun env' H' => aloopK f n env' H' k) k)
noncomputable def acodeK {α : Type} (S : Seam α) (P : Program) (C : CallF) (fuel N : Nat) : Code → Env → Heap → Kont α → Option α
  | .skip, env, H, k => k .normal env H
  | .region _ ops draw, env, H, k => aregionK S P C N ops.toList draw env H (k .normal)
  | .seq a b, env, H, k => acodeK S P C fuel N a env H (onNormal (fun env' H' => acodeK S P C fuel N b env' H' k) k)
  | .cond c a b, env, H, k => S.i (ev env c) (acodeK S P C fuel N a env H k) (acodeK S P C fuel N b env H k)
  | .block id body, env, H, k => acodeK S P C fuel N body env H (onBlock id k)
  | .loop body, env, H, k => aloopK (acodeK S P C fuel N body) fuel env H k
  | .exit id, env, H, k => k (.exit id) env H
  | .scope body, env, H, k => acodeK S P C fuel N body env H k
  | .label _, env, H, k => k .normal env H
  | .ret, env, H, k => k .ret env H
  | _, _, _, _ => none

section
variable {α : Type} {P : Program} {C : CallF} {N fuel : Nat}
theorem wantK_eq {all : List Oper} {o : Oper} {env : Env} : wantK all o env = wantedE all o env := by
  unfold wantK wantedE
  cases o.guard with
  | none => rfl
  | some g => obtain ⟨j, want⟩ := g; rfl
theorem opK_eq {all : List Oper} {o : Oper} {env : Env} {H : Heap} : opK P C all o env H = if wantedE all o env then aop P C env o.op H else some (undef, H) := by
  unfold opK
  cases hg : o.guard with
  | none => simp [wantedE, hg]
  | some g => simp [gd, wantK_eq]
theorem plain_eq {all : List Oper} {o : Oper} {x : Operand} (h : plainOf o = some x) (env : Env) (H : Heap) : wantedE all o env = true ∧ aop P C env o.op H = some (ev env x, H) ∧ kindOf P o.op = .pure := by
  unfold plainOf at h
  split at h
  · rename_i hg
    refine ⟨by simp [wantedE, hg], ?_⟩
    split at h
    · rename_i y hy; injection h with h; subst h; rw [hy]; exact ⟨rfl, rfl⟩
    · rename_i y hy; injection h with h; subst h; rw [hy]; exact ⟨rfl, rfl⟩
    · cases h
  · cases h

theorem aopsK_eq (all : List Oper) : ∀ (l : List Oper) (env : Env) (H : Heap) (k : Env → Heap → Option α), aopsK real P C N all l env H k = (aops P C N all l env H).bind fun r => k r.1 r.2
  | [], env, H, k => rfl
  | o :: l, env, H, k => by
    simp only [aopsK, aops, real_b]
    cases hp : plainOf o with
    | some x =>
      obtain ⟨h1, h2, _⟩ := plain_eq (P := P) (C := C) (all := all) hp env H
      simp only [h1, h2, if_true, aopsK_eq all l]
    | none =>
      simp only [opK_eq]
      by_cases hw : wantedE all o env = true
      · simp only [if_pos hw]
        cases ha : aop P C env o.op H with
        | none => rfl
        | some r => obtain ⟨v, H'⟩ := r; simp only [bnd, aopsK_eq all l]
      · simp only [if_neg hw, bnd, aopsK_eq all l]
theorem aopsDK_eq (all : List Oper) (bf : List Nat) : ∀ (l : List Oper) (i : Nat) (acts : List (Nat × Heap × Heap)) (acts' : List (Nat × Bool × Heap × Heap)) (reads reads' : List (Nat × Option Nat)) (env : Env) (H : Heap) (k : Env → Heap → Option α),
    (∀ g : Nat × Heap × Heap → Bool, acts'.all (fun x => !x.2.1 || g (x.1, x.2.2)) = acts.all g) → (∀ g : Nat × Option Nat → Bool, (∀ i, g (i, none) = true) → reads'.all g = reads.all g) →
    aopsDK real P C N all bf l i acts' reads' env H k = (aopsD P C N all bf l i acts reads env H).bind fun r => k r.1 r.2
  | [], i, acts, acts', reads, reads', env, H, k, hA, hR => rfl
  | o :: l, i, acts, acts', reads, reads', env, H, k, hA, hR => by
    have hb : ∀ (a b c : Bool), (a || b || c) = (b || (a || c)) := by decide
    have hA1 : ∀ b, (acts'.all fun x => ordered bf x.1 i || !x.2.1 || sameBlk x.2.2.1 x.2.2.2 b) = acts.all fun x => ordered bf x.1 i || sameBlk x.2.1 x.2.2 b := fun b => by
      rw [← hA]
      congr 1
      funext x
      exact hb _ _ _
    have hR1 : ∀ H', (reads'.all fun x => ordered bf x.1 i || sameBlk H H' x.2) = reads.all fun x => ordered bf x.1 i || sameBlk H H' x.2 := fun H' => hR _ fun j => by simp [sameBlk]
    simp only [aopsDK, aopsD, opK_eq, wantK_eq, real_b, real_c]
    by_cases hw : wantedE all o env = true
    · simp only [hw, Bool.not_true, Bool.false_or, hA1, hR1, ↓reduceIte]
      cases hk : kindOf P o.op with
      | read =>
        simp only [chk]
        by_cases hc : (acts.all fun x => ordered bf x.1 i || sameBlk x.2.1 x.2.2 (readBlk env o.op)) = true
        · simp only [if_pos hc]
          cases ha : aop P C env o.op H with
          | none => rfl
          | some r =>
            obtain ⟨v, H'⟩ := r
            simp only [bnd]
            exact aopsDK_eq all bf l (i + 1) acts acts' _ _ _ _ k hA fun g hg => by simp only [List.all_cons, hR g hg]
        · simp only [if_neg hc]; rfl
      | act =>
        simp only
        cases ha : aop P C env o.op H with
        | none => rfl
        | some r =>
          obtain ⟨v, H'⟩ := r
          simp only [bnd, chk]
          by_cases hc : (reads.all fun x => ordered bf x.1 i || sameBlk H H' x.2) = true
          · simp only [if_pos hc]
            exact aopsDK_eq all bf l (i + 1) _ _ _ _ _ _ k (fun g => by simp only [List.all_cons, Bool.not_true, Bool.false_or, hA g]) hR
          · simp only [if_neg hc]; rfl
      | make =>
        simp only
        cases ha : aop P C env o.op H with
        | none => rfl
        | some r =>
          obtain ⟨v, H'⟩ := r
          simp only [bnd]
          exact aopsDK_eq all bf l (i + 1) acts acts' _ _ _ _ k hA fun g hg => by simp only [List.all_cons, hR g hg]
      | pure =>
        simp only
        cases hp : plainOf o with
        | some x =>
          obtain ⟨h1, h2, _⟩ := plain_eq (P := P) (C := C) (all := all) hp env H
          simp only [h2]
          exact aopsDK_eq all bf l (i + 1) acts acts' reads reads' _ _ k hA hR
        | none =>
          simp only
          cases ha : aop P C env o.op H with
          | none => rfl
          | some r =>
            obtain ⟨v, H'⟩ := r
            simp only [bnd]
            exact aopsDK_eq all bf l (i + 1) acts acts' reads reads' _ _ k hA hR
    · have hw' : wantedE all o env = false := by simpa using hw
      simp only [hw', Bool.not_false, Bool.true_or, bnd, chk, Bool.false_eq_true, ↓reduceIte]
      have hR2 : ∀ g : Nat × Option Nat → Bool, (∀ i, g (i, none) = true) → List.all ((i, none) :: reads') g = reads.all g := fun g hg => by simp only [List.all_cons, hg i, Bool.true_and, hR g hg]
      cases hk : kindOf P o.op with
      | read => exact aopsDK_eq all bf l (i + 1) acts acts' _ _ _ _ k hA hR2
      | act => exact aopsDK_eq all bf l (i + 1) acts _ _ _ _ _ k (fun g => by simp only [List.all_cons, Bool.not_false, Bool.true_or, Bool.true_and, hA g]) hR
      | make => exact aopsDK_eq all bf l (i + 1) acts acts' _ _ _ _ k hA hR2
      | pure =>
        simp only
        cases hp : plainOf o with
        | some x =>
          obtain ⟨h1, _⟩ := plain_eq (P := P) (C := C) (all := all) hp env H
          rw [h1] at hw'; cases hw'
        | none => exact aopsDK_eq all bf l (i + 1) acts acts' reads reads' _ _ k hA hR
theorem aregionK_eq (ops : List Oper) (draw : Bool) (env : Env) (H : Heap) (k : Env → Heap → Option α) : aregionK real P C N ops draw env H k = (aregion P C N ops draw env H).bind fun r => k r.1 r.2 := by
  unfold aregionK aregion
  split
  · split
    · exact aopsDK_eq ops _ ops 0 [] [] [] [] env H k (fun g => rfl) (fun g _ => rfl)
    · rfl
  · exact aopsK_eq ops ops env H k
theorem acodeK_eq : ∀ (c : Code) (env : Env) (H : Heap) (k : Kont α), acodeK real P C fuel N c env H k = (acode P C fuel N c env H).bind fun r => k r.1 r.2.1 r.2.2 := by
  intro c
  induction c with
  | region id ops draw =>
    intro env H k
    simp only [acodeK, acode, aregionK_eq]
    cases aregion P C N ops.toList draw env H with
    | none => rfl
    | some r => rfl
  | seq a b iha ihb =>
    intro env H k
    simp only [acodeK, acode, iha]
    cases acode P C fuel N a env H with
    | none => rfl
    | some r =>
      obtain ⟨e, env', H'⟩ := r
      cases e <;> simp [ihb, onNormal]
  | cond c a b iha ihb =>
    intro env H k
    simp only [acodeK, acode, iff, real_i]
    cases hc : ev env c with
    | bool t => cases t <;> simp [iha, ihb]
    | _ => rfl
  | block id b ih =>
    intro env H k
    simp only [acodeK, acode, ih]
    cases acode P C fuel N b env H with
    | none => rfl
    | some r =>
      obtain ⟨e, env', H'⟩ := r
      cases e with
      | exit i => simp only [Option.bind_some, onBlock]; split <;> rfl
      | normal => rfl
      | ret => rfl
  | loop b ih =>
    intro env H k
    simp only [acodeK, acode]
    have key : ∀ (n : Nat) (env : Env) (H : Heap) (k : Kont α), aloopK (acodeK real P C fuel N b) n env H k = (aloop (acode P C fuel N b) n env H).bind fun r => k r.1 r.2.1 r.2.2 := by
      intro n
      induction n with
      | zero => intro env H k; rfl
      | succ n ihn =>
        intro env H k
        simp only [aloopK, aloop, ih]
        cases acode P C fuel N b env H with
        | none => rfl
        | some r =>
          obtain ⟨e, env', H'⟩ := r
          cases e <;> simp [ihn, onNormal]
    exact key fuel env H k
  | scope body ih => intro env H k; simp only [acodeK, acode, ih]
  | _ => intro env H k; simp only [acodeK, acode, Option.bind_none, Option.bind_some]

theorem aloopK_eq {S : Seam α} {body : Code} {k : Kont α} {L : Nat → Env → Heap → Option α} (h0 : ∀ env H, L 0 env H = none)
    (hs : ∀ m env H, acodeK S P C fuel N body env H (onNormal (fun env' H' => L m env' H') k) = L (m + 1) env H) : ∀ m env H, aloopK (acodeK S P C fuel N body) m env H k = L m env H
  | 0, env, H => (h0 _ _).symm
  | m + 1, env, H => by
    rw [aloopK, ← hs m env H]
    congr 2
    funext env' H'
    exact aloopK_eq h0 hs m env' H'
end

noncomputable def kAt {α : Type} (S : Seam α) (P : Program) (C : CallF) (fuel N : Nat) : Code → List Nat → Kont α → Kont α
  | .seq a b, 0 :: p, k => kAt S P C fuel N a p (onNormal (fun env' H' => acodeK S P C fuel N b env' H' k) k)
  | .seq _ b, _ :: p, k => kAt S P C fuel N b p k
  | .cond _ a _, 0 :: p, k => kAt S P C fuel N a p k
  | .cond _ _ b, _ :: p, k => kAt S P C fuel N b p k
  | .block id b, _ :: p, k => kAt S P C fuel N b p (onBlock id k)
  | .scope b, _ :: p, k => kAt S P C fuel N b p k
  | _, _, k => k
def cAt : Code → List Nat → Code
  | .seq a _, 0 :: p => cAt a p
  | .seq _ b, _ :: p => cAt b p
  | .cond _ a _, 0 :: p => cAt a p
  | .cond _ _ b, _ :: p => cAt b p
  | .block _ b, _ :: p => cAt b p
  | .loop b, _ :: p => cAt b p
  | .scope b, _ :: p => cAt b p
  | c, _ => c

def fin (P : Program) (fn : Func) : Kont (Value × Heap) := fun e env H => match e with
  | .normal => results P fn env H
  | .ret => results P fn env H
  | .exit _ => none
theorem acall_eq {P : Program} {gl : Bool} {E : Ext} {n : Nat} {f : FuncId} {args : List Value} {H : Heap} {fn : Func} {c : Code} (hf : P.funcs[f]? = some fn) (hn : (fn.name == "runtime.NumGoroutine") = false) (hb : fn.body = some c) (hE : E f = none) (hok : okCode P gl c = true) {N : Nat} (hN : max args.length fn.ntmps = N) :
    acall P gl E (n + 1) f args H = acodeK real P (acall P gl E n) n N c (env0 args) H (fin P fn) := by
  subst hN
  rw [acodeK_eq]
  unfold acall
  simp only [hf, hn, hb, hE, hok]
  cases acode P (acall P gl E n) n (max args.length fn.ntmps) c (env0 args) H with
  | none => rfl
  | some r =>
    obtain ⟨e, env', H'⟩ := r
    cases e <;> rfl

def pickV (c a b : Value) (H : Heap) : Option (Value × Heap) := match c with | .bool t => some (if t then a else b, H) | _ => none
def bld (zs : List Value) (pl : List (Nat × Nat × Value)) (H : Heap) : Option (Value × Heap) := match fillC zs pl with | some cs => some (.agg cs.toArray, H) | none => none
def bldS (sz len : Nat) (zs : List Value) (pl : List (Nat × Nat × Value)) (H : Heap) : Option (Value × Heap) := match fillC (rep len zs) pl with | some cs => newS sz len len cs H | none => none
def nilC (x : Value) (H : Heap) : Option (Value × Heap) := match x with | .pointer (some a) => some (.pointer (some a), H) | .func (.func f) a b => some (.func (.func f) a b, H) | _ => none
def mkS (sz by_ : Nat) (zs : List Value) (l c : Value) (H : Heap) : Option (Value × Heap) :=
  match l, c with
  | .int .i64 n, .int .i64 m => if 0 ≤ n ∧ n ≤ m ∧ by_ * m ≤ 140737488355328 ∧ zs.length = sz ∧ m < 9223372036854775808 ∧ 0 < sz then newS sz n.toNat m.toNat (rep m.toNat zs) H else none
  | _, _ => none
def extr (i : Nat) (x : Value) (H : Heap) : Option (Value × Heap) := match x with | .tuple vs => up (vs.toList[i]?) H | _ => none
def cvI (k : IntKind) (x : Value) (H : Heap) : Option (Value × Heap) := match x with | .int _ n => some (.int k (k.wrap n), H) | _ => none
def lenStr (x : Value) : Option Value := match x with | .string s => some (.int .i64 s.size) | _ => none
def lenS (x : Value) : Option Value := match x with | .slice _ n _ => some (.int .i64 n) | _ => none
def resM : List (Option Value) → Option (List Value)
  | [] => some []
  | r :: rest => match r, resM rest with | some v, some l => some (v :: l) | _, _ => none
end Go.Eng
