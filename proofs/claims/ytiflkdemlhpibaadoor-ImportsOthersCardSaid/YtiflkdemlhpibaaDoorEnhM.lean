/- The run of a region in the text's order, laid out. -/
import Derived.Test.YtiflkdemlhpibaaDoorEnhL
set_option linter.unusedVariables false
namespace Go.Eng
open Go

section
variable {P : Program} {C : CallF} {env : Env} {o : Op} {H H' : Heap} {v : Value}
theorem Mono.upd' {b : Nat} {blk : Blk} {k : Option Blk} (hb : H.get b = some blk) : Mono H (H.upd b k) := ⟨Nat.le_refl _, fun h b' k' hb' => by
  simp only [Heap.upd] at hb' ⊢
  split at hb'
  · rename_i he; subst he; exact h b' blk hb
  · exact h b' k' hb'⟩
theorem app_mono {sz by_ : Nat} {s x : Value} (h : app sz by_ s x H = some (v, H')) : Mono H H' := by
  unfold app at h
  split at h
  case h_2 => cases h
  split at h
  · simp only [Option.some.injEq, Prod.mk.injEq] at h; obtain ⟨_, rfl⟩ := h; exact Mono.refl _
  · split at h
    · cases h
    · split at h
      · split at h
        · simp only [Option.some.injEq, Prod.mk.injEq] at h; obtain ⟨_, rfl⟩ := h; exact Mono.push _ _
        · cases h
      · split at h
        · cases h
        · rename_i blk hb
          split at h
          · split at h
            · simp only [Option.some.injEq, Prod.mk.injEq] at h; obtain ⟨_, rfl⟩ := h; exact Mono.push _ _
            · cases h
          · split at h
            · simp only [Option.some.injEq, Prod.mk.injEq] at h; obtain ⟨_, rfl⟩ := h; exact (Mono.upd' hb).trans (Mono.push _ _)
            · split at h
              · simp only [Option.some.injEq, Prod.mk.injEq] at h; obtain ⟨_, rfl⟩ := h; exact Mono.upd' hb
              · cases h
theorem appZ_mono {sz by_ : Nat} {zs : List Value} {s x : Value} (h : appZ sz by_ zs s x H = some (v, H')) : Mono H H' := by
  unfold appZ at h
  split at h
  case h_2 => cases h
  split at h
  · simp only [Option.some.injEq, Prod.mk.injEq] at h; obtain ⟨_, rfl⟩ := h; exact Mono.push _ _
  · cases h
theorem cpy_mono {sz : Nat} {d x : Value} (h : cpy sz d x H = some (v, H')) : Mono H H' := by
  unfold cpy at h
  split at h
  case h_2 => cases h
  simp only at h
  split at h
  · simp only [Option.some.injEq, Prod.mk.injEq] at h; obtain ⟨_, rfl⟩ := h; exact Mono.refl _
  · split at h
    · rename_i blk hb
      split at h
      · simp only [Option.some.injEq, Prod.mk.injEq] at h; obtain ⟨_, rfl⟩ := h; exact Mono.upd' hb
      · cases h
    · cases h
theorem stV_mono {k : Nat} {a x : Value} (h : stV k a x H = some (v, H')) : Mono H H' := by
  unfold stV at h
  split at h
  · split at h
    · rename_i blk hb
      split at h
      · simp only [Option.some.injEq, Prod.mk.injEq] at h; obtain ⟨_, rfl⟩ := h; exact Mono.upd' hb
      · cases h
    · cases h
  · cases h
theorem rngS_mono {x : Value} (h : rngS x H = some (v, H')) : Mono H H' := by
  unfold rngS at h
  split at h
  · simp only [Option.some.injEq, Prod.mk.injEq] at h; obtain ⟨_, rfl⟩ := h; exact Mono.push _ _
  · cases h
theorem nxtS_mono {x : Value} (h : nxtS x H = some (v, H')) : Mono H H' := by
  unfold nxtS at h
  split at h
  · split at h
    · rename_i hob
      obtain ⟨k, hk, _⟩ := obAt_inv hob
      split at h
      · simp only [Option.some.injEq, Prod.mk.injEq] at h; obtain ⟨_, rfl⟩ := h; exact Mono.upd' hk
      · simp only [Option.some.injEq, Prod.mk.injEq] at h; obtain ⟨_, rfl⟩ := h; exact Mono.refl _
    · cases h
  · cases h
theorem mkM_mono (h : mkM H = some (v, H')) : Mono H H' := by
  unfold mkM at h
  simp only [Option.some.injEq, Prod.mk.injEq] at h; obtain ⟨_, rfl⟩ := h; exact Mono.push _ _
theorem lkM_same {d : TypeDesc} {z x k : Value} {ok : Bool} (h : lkM d z ok x k H = some (v, H')) : H' = H := by
  unfold lkM at h
  split at h
  · simp only [Option.some.injEq, Prod.mk.injEq] at h; exact h.2.symm
  · split at h
    · split at h
      · simp only [Option.some.injEq, Prod.mk.injEq] at h; exact h.2.symm
      · simp only [Option.some.injEq, Prod.mk.injEq] at h; exact h.2.symm
      · cases h
    · cases h
  · cases h
theorem lenM_same {x : Value} (h : lenM x H = some (v, H')) : H' = H := by
  unfold lenM at h
  split at h
  · simp only [Option.some.injEq, Prod.mk.injEq] at h; exact h.2.symm
  · split at h
    · simp only [Option.some.injEq, Prod.mk.injEq] at h; exact h.2.symm
    · cases h
  · cases h
theorem upM_mono {d : TypeDesc} {x k y : Value} (h : upM d x k y H = some (v, H')) : Mono H H' := by
  unfold upM at h
  split at h
  · split at h
    · rename_i hob
      obtain ⟨q, hk, _⟩ := obAt_inv hob
      split at h
      · simp only [Option.some.injEq, Prod.mk.injEq] at h; obtain ⟨_, rfl⟩ := h; exact Mono.upd' hk
      · simp only [Option.some.injEq, Prod.mk.injEq] at h; obtain ⟨_, rfl⟩ := h; exact Mono.upd' hk
      · cases h
    · cases h
  · cases h
theorem aop_mono (hC : CMono C) (h : aop P C env o H = some (v, H')) : Mono H H' := by
  cases hk : kindOf P o with
  | pure => obtain ⟨rfl, _⟩ := kind_pure hk h; exact Mono.refl _
  | read => obtain ⟨rfl, _⟩ := kind_read hk h; exact Mono.refl _
  | make => obtain ⟨blk, rfl, _⟩ := kind_make hk h; exact Mono.push _ _
  | act =>
    cases o <;> first
      | (simp only [kindOf] at hk; cases hk; done)
      | (simp only [aop] at h; cases h; done)
      | skip
    case store t x y =>
      simp only [aop] at h
      split at h
      · exact stV_mono h
      · cases h
    case range t x =>
      simp only [aop] at h
      split at h
      · exact rngS_mono h
      · cases h
    case next x b =>
      cases b with
      | false => simp only [aop] at h; cases h
      | true => simp only [aop] at h; exact nxtS_mono h
    case makeMap t r =>
      simp only [aop] at h
      split at h
      · exact mkM_mono h
      · exact mkM_mono h
      · cases h
    case lookup t x k ok =>
      simp only [aop] at h
      split at h
      · split at h
        · split at h
          · rw [lkM_same h]; exact Mono.refl _
          · cases h
        · cases h
      · cases h
    case mapUpdate t x k y =>
      simp only [aop] at h
      split at h
      · split at h
        · split at h
          · exact upM_mono h
          · cases h
        · cases h
      · cases h
    case insert t x k y =>
      simp only [aop] at h
      split at h
      · split at h
        · split at h
          · exact upM_mono h
          · cases h
        · cases h
      · cases h
    case convert s d x =>
      simp only [kindOf] at hk
      split at hk <;> first | (cases hk; done) | skip
      rename_i hc
      simp only [aop, hc, cnv] at h
      unfold markV at h
      split at h
      · split at h
        · split at h
          · simp only [Option.some.injEq, Prod.mk.injEq] at h; obtain ⟨_, rfl⟩ := h; exact Mono.refl _
          · cases h
        · cases h
      · cases h
    case call c =>
      obtain ⟨callee, args, argTypes⟩ := c
      cases callee with
      | value f =>
        simp only [aop] at h
        split at h
        · exact hC _ _ _ _ _ h
        · cases h
      | invoke r n => simp only [aop] at h; cases h
      | builtin b =>
        simp only [aop] at h
        unfold builtinB at h
        split at h
        · split at h
          · split at h
            · rw [lenM_same h]; exact Mono.refl _
            · obtain ⟨_, rfl⟩ := up_inv h; exact Mono.refl _
          · cases h
        · split at h
          · obtain ⟨_, rfl⟩ := up_inv h; exact Mono.refl _
          · cases h
        · split at h
          · split at h
            · split at h
              · split at h
                · split at h
                  · exact app_mono h
                  · exact app_mono h
                  · exact appZ_mono h
                  · cases h
                · cases h
              · cases h
            · cases h
          · cases h
        · split at h
          · split at h
            · split at h
              · exact cpy_mono h
              · cases h
            · cases h
          · cases h
        · split at h
          · simp only [Option.some.injEq, Prod.mk.injEq] at h; obtain ⟨_, rfl⟩ := h; exact Mono.refl _
          · cases h
        · split at h
          · simp only [Option.some.injEq, Prod.mk.injEq] at h; obtain ⟨_, rfl⟩ := h; exact Mono.refl _
          · cases h
        · cases h
end

/-- The block that an operation reads or makes. -/
def touch (P : Program) (env : Env) (H : Heap) (o : Op) : Option (Option Nat) :=
  match kindOf P o with
  | .read => some (readBlk env o)
  | .make => some (some H.n)
  | _ => none

structure Trc (P : Program) (C : CallF) (N : Nat) (all : List Oper) (bf : List Nat) (k n : Nat) (e : Nat → Env) (h : Nat → Heap) (v : Nat → Value) (acts : List (Nat × Heap × Heap)) (reads : List (Nat × Option Nat)) : Prop where
  yes : ∀ j o, k ≤ j → j < n → all[j]? = some o → wantedE all o (e j) = true → aop P C (e j) o.op (h j) = some (v j, h (j + 1))
  no : ∀ j o, k ≤ j → j < n → all[j]? = some o → wantedE all o (e j) = false → v j = undef ∧ h (j + 1) = h j
  put : ∀ j o, k ≤ j → j < n → all[j]? = some o → e (j + 1) = putE N (e j) o.dst (v j)
  actA : ∀ j o, k ≤ j → j < n → all[j]? = some o → wantedE all o (e j) = true → kindOf P o.op = .act → ∀ x ∈ reads, ordered bf x.1 j = true ∨ sameBlk (h j) (h (j + 1)) x.2 = true
  readA : ∀ j o, k ≤ j → j < n → all[j]? = some o → wantedE all o (e j) = true → kindOf P o.op = .read → ∀ x ∈ acts, ordered bf x.1 j = true ∨ sameBlk x.2.1 x.2.2 (readBlk (e j) o.op) = true
  act : ∀ i j o q b, k ≤ i → i < j → j < n → all[i]? = some o → all[j]? = some q → wantedE all o (e i) = true → wantedE all q (e j) = true → touch P (e i) (h i) o.op = some b → kindOf P q.op = .act → ordered bf i j = true ∨ sameBlk (h j) (h (j + 1)) b = true
  read : ∀ i j o q, k ≤ i → i < j → j < n → all[i]? = some o → all[j]? = some q → wantedE all o (e i) = true → wantedE all q (e j) = true → kindOf P o.op = .act → kindOf P q.op = .read → ordered bf i j = true ∨ sameBlk (h i) (h (i + 1)) (readBlk (e j) q.op) = true

def cs {α : Type} (k : Nat) (a : α) (f : Nat → α) : Nat → α := fun i => if i = k then a else f i
theorem cs_eq {α : Type} (k : Nat) (a : α) (f : Nat → α) : cs k a f k = a := by simp [cs]
theorem cs_gt {α : Type} {k i : Nat} (a : α) (f : Nat → α) (h : k < i) : cs k a f i = f i := by simp [cs]; omega

theorem Trc.cons {P : Program} {C : CallF} {N : Nat} {all : List Oper} {bf : List Nat} {k n : Nat} {e : Nat → Env} {h : Nat → Heap} {v : Nat → Value} {acts acts' : List (Nat × Heap × Heap)} {reads reads' : List (Nat × Option Nat)} {env : Env} {H : Heap} {o : Oper} {val : Value}
    (ho : all[k]? = some o) (T : Trc P C N all bf (k + 1) n e h v acts' reads') (hn : k < n)
    (hy : wantedE all o env = true → aop P C env o.op H = some (val, h (k + 1))) (hno : wantedE all o env = false → val = undef ∧ h (k + 1) = H) (he : e (k + 1) = putE N env o.dst val)
    (ha : ∀ x ∈ acts, x ∈ acts') (hr : ∀ x ∈ reads, x ∈ reads') (ha2 : wantedE all o env = true → kindOf P o.op = .act → (k, H, h (k + 1)) ∈ acts') (hr2 : ∀ b, wantedE all o env = true → touch P env H o.op = some b → (k, b) ∈ reads')
    (c1 : wantedE all o env = true → kindOf P o.op = .act → ∀ x ∈ reads, ordered bf x.1 k = true ∨ sameBlk H (h (k + 1)) x.2 = true)
    (c2 : wantedE all o env = true → kindOf P o.op = .read → ∀ x ∈ acts, ordered bf x.1 k = true ∨ sameBlk x.2.1 x.2.2 (readBlk env o.op) = true) :
    Trc P C N all bf k n (cs k env e) (cs k H h) (cs k val v) acts reads := by
  have g1 : ∀ {α : Type} {j : Nat} (a : α) (f : Nat → α), k ≤ j → cs k a f (j + 1) = f (j + 1) := fun a f hj => cs_gt a f (by omega)
  refine ⟨?_, ?_, ?_, ?_, ?_, ?_, ?_⟩
  · intro j q hk hj hq hw
    rw [g1 _ _ hk]
    rcases Nat.eq_or_lt_of_le hk with rfl | hlt
    · rw [cs_eq] at hw ⊢; rw [cs_eq, cs_eq]; rw [ho] at hq; cases hq; exact hy hw
    · rw [cs_gt _ _ hlt] at hw ⊢; rw [cs_gt _ _ hlt, cs_gt _ _ hlt]; exact T.yes j q hlt hj hq hw
  · intro j q hk hj hq hw
    rw [g1 _ _ hk]
    rcases Nat.eq_or_lt_of_le hk with rfl | hlt
    · rw [cs_eq] at hw; rw [cs_eq, cs_eq]; rw [ho] at hq; cases hq; exact hno hw
    · rw [cs_gt _ _ hlt] at hw; rw [cs_gt _ _ hlt, cs_gt _ _ hlt]; exact T.no j q hlt hj hq hw
  · intro j q hk hj hq
    rw [g1 _ _ hk]
    rcases Nat.eq_or_lt_of_le hk with rfl | hlt
    · rw [cs_eq, cs_eq]; rw [ho] at hq; cases hq; exact he
    · rw [cs_gt _ _ hlt, cs_gt _ _ hlt]; exact T.put j q hlt hj hq
  · intro j q hk hj hq hw hka x hx
    rw [g1 _ _ hk]
    rcases Nat.eq_or_lt_of_le hk with rfl | hlt
    · rw [cs_eq] at hw; rw [cs_eq]; rw [ho] at hq; cases hq; exact c1 hw hka x hx
    · rw [cs_gt _ _ hlt] at hw; rw [cs_gt _ _ hlt]; exact T.actA j q hlt hj hq hw hka x (hr x hx)
  · intro j q hk hj hq hw hka x hx
    rcases Nat.eq_or_lt_of_le hk with rfl | hlt
    · rw [cs_eq] at hw; rw [cs_eq]; rw [ho] at hq; cases hq; exact c2 hw hka x hx
    · rw [cs_gt _ _ hlt] at hw; rw [cs_gt _ _ hlt]; exact T.readA j q hlt hj hq hw hka x (ha x hx)
  · intro i j q1 q2 b hk hij hj hq1 hq2 hw1 hw2 ht hka
    have hlt : k < j := by omega
    rw [cs_gt _ _ hlt] at hw2
    rw [cs_gt _ _ hlt, cs_gt _ _ (by omega)]
    rcases Nat.eq_or_lt_of_le hk with rfl | hlt2
    · rw [cs_eq] at hw1 ht; rw [cs_eq] at ht; rw [ho] at hq1; cases hq1
      exact T.actA j q2 hlt hj hq2 hw2 hka (k, b) (hr2 b hw1 ht)
    · rw [cs_gt _ _ hlt2] at hw1 ht; rw [cs_gt _ _ hlt2] at ht
      exact T.act i j q1 q2 b hlt2 hij hj hq1 hq2 hw1 hw2 ht hka
  · intro i j q1 q2 hk hij hj hq1 hq2 hw1 hw2 hk1 hk2
    have hlt : k < j := by omega
    rw [cs_gt _ _ hlt] at hw2
    rw [g1 _ _ hk, cs_gt _ _ hlt]
    rcases Nat.eq_or_lt_of_le hk with rfl | hlt2
    · rw [cs_eq] at hw1; rw [cs_eq]; rw [ho] at hq1; cases hq1
      exact T.readA j q2 hlt hj hq2 hw2 hk2 (k, H, h (k + 1)) (ha2 hw1 hk1)
    · rw [cs_gt _ _ hlt2] at hw1; rw [cs_gt _ _ hlt2]
      exact T.read i j q1 q2 hlt2 hij hj hq1 hq2 hw1 hw2 hk1 hk2

theorem trace {P : Program} {C : CallF} {N : Nat} {all : List Oper} {bf : List Nat} : ∀ (l : List Oper) (k : Nat) (acts : List (Nat × Heap × Heap)) (reads : List (Nat × Option Nat)) (env : Env) (H : Heap) (env' : Env) (H' : Heap), (∀ j, l[j]? = all[k + j]?) →
    aopsD P C N all bf l k acts reads env H = some (env', H') → ∃ e h v, e k = env ∧ h k = H ∧ e (k + l.length) = env' ∧ h (k + l.length) = H' ∧ Trc P C N all bf k (k + l.length) e h v acts reads
  | [], k, acts, reads, env, H, env', H', hl, h => by
    simp only [aopsD, Option.some.injEq, Prod.mk.injEq] at h
    obtain ⟨rfl, rfl⟩ := h
    refine ⟨fun _ => env, fun _ => H, fun _ => undef, rfl, rfl, rfl, rfl, ?_⟩
    constructor <;> intros <;> simp only [List.length_nil] at * <;> omega
  | o :: l, k, acts, reads, env, H, env', H', hl, h => by
    have ho : all[k]? = some o := by have := hl 0; simpa using this.symm
    have hl' : ∀ j, l[j]? = all[k + 1 + j]? := fun j => by have := hl (j + 1); simpa [Nat.add_assoc, Nat.add_comm 1 j] using this
    have hlen : k + (o :: l).length = k + 1 + l.length := by simp; omega
    simp only [aopsD] at h
    rw [hlen]
    have go : ∀ (acts' : List (Nat × Heap × Heap)) (reads' : List (Nat × Option Nat)) (val : Value) (H1 : Heap), aopsD P C N all bf l (k + 1) acts' reads' (putE N env o.dst val) H1 = some (env', H') →
        (wantedE all o env = true → aop P C env o.op H = some (val, H1)) → (wantedE all o env = false → val = undef ∧ H1 = H) →
        (∀ x ∈ acts, x ∈ acts') → (∀ x ∈ reads, x ∈ reads') → (wantedE all o env = true → kindOf P o.op = .act → (k, H, H1) ∈ acts') → (∀ b, wantedE all o env = true → touch P env H o.op = some b → (k, b) ∈ reads') →
        (wantedE all o env = true → kindOf P o.op = .act → ∀ x ∈ reads, ordered bf x.1 k = true ∨ sameBlk H H1 x.2 = true) →
        (wantedE all o env = true → kindOf P o.op = .read → ∀ x ∈ acts, ordered bf x.1 k = true ∨ sameBlk x.2.1 x.2.2 (readBlk env o.op) = true) →
        ∃ e h v, e k = env ∧ h k = H ∧ e (k + 1 + l.length) = env' ∧ h (k + 1 + l.length) = H' ∧ Trc P C N all bf k (k + 1 + l.length) e h v acts reads := by
      intro acts' reads' val H1 hrec a1 a2 a3 a4 a5 a6 a7 a8
      obtain ⟨e, h, v, q1, q2, q3, q4, T⟩ := trace l (k + 1) acts' reads' _ H1 env' H' hl' hrec
      subst q2
      refine ⟨cs k env e, cs k H h, cs k val v, cs_eq _ _ _, cs_eq _ _ _, by rw [cs_gt _ _ (by omega)]; exact q3, by rw [cs_gt _ _ (by omega)]; exact q4, ?_⟩
      exact Trc.cons ho T (by omega) a1 a2 q1 a3 a4 a5 a6 a7 a8
    split at h
    · rename_i hw
      split at h
      · rename_i hk
        split at h
        case isFalse => cases h
        rename_i hc
        split at h
        case h_2 => cases h
        rename_i v1 H1 hv
        refine go _ _ v1 H1 h (fun _ => hv) (fun h0 => by rw [hw] at h0; cases h0) (fun x hx => hx) (fun x hx => by simp [hx]) (fun _ h0 => by rw [hk] at h0; cases h0) (fun b _ hb => ?_) (fun _ h0 => by rw [hk] at h0; cases h0) (fun _ _ x hx => ?_)
        · simp only [touch, hk, Option.some.injEq] at hb; subst hb; simp
        · rw [List.all_eq_true] at hc; simpa using hc x hx
      · rename_i hk
        split at h
        case h_2 => cases h
        rename_i v1 H1 hv
        split at h
        case isFalse => cases h
        rename_i hc
        refine go _ _ v1 H1 h (fun _ => hv) (fun h0 => by rw [hw] at h0; cases h0) (fun x hx => by simp [hx]) (fun x hx => hx) (fun _ _ => by simp) (fun b _ hb => by simp [touch, hk] at hb) (fun _ _ x hx => ?_) (fun _ h0 => by rw [hk] at h0; cases h0)
        rw [List.all_eq_true] at hc; simpa using hc x hx
      · rename_i hk
        split at h
        case h_2 => cases h
        rename_i v1 H1 hv
        refine go _ _ v1 H1 h (fun _ => hv) (fun h0 => by rw [hw] at h0; cases h0) (fun x hx => hx) (fun x hx => by simp [hx]) (fun _ h0 => by rw [hk] at h0; cases h0) (fun b _ hb => ?_) (fun _ h0 => by rw [hk] at h0; cases h0) (fun _ h0 => by rw [hk] at h0; cases h0)
        simp only [touch, hk, Option.some.injEq] at hb; subst hb; simp
      · rename_i hk
        split at h
        case h_2 => cases h
        rename_i v1 H1 hv
        exact go _ _ v1 H1 h (fun _ => hv) (fun h0 => by rw [hw] at h0; cases h0) (fun x hx => hx) (fun x hx => hx) (fun _ h0 => by rw [hk] at h0; cases h0) (fun b _ hb => by simp [touch, hk] at hb) (fun _ h0 => by rw [hk] at h0; cases h0) (fun _ h0 => by rw [hk] at h0; cases h0)
    · rename_i hw
      have hw' : wantedE all o env = false := by simpa using hw
      exact go _ _ undef H h (fun h0 => absurd h0 hw) (fun _ => ⟨rfl, rfl⟩) (fun x hx => hx) (fun x hx => hx) (fun h0 => absurd h0 hw) (fun _ h0 => absurd h0 hw) (fun h0 => absurd h0 hw) (fun h0 => absurd h0 hw)

end Go.Eng
