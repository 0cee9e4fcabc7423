/- Each order comes to what the text's order comes to. -/
import Derived.Test.YtiflkdemlhpibaaDoorEnhN
set_option linter.unusedVariables false
namespace Go.Eng
open Go

/-- The text's run, and what its region is like. -/
structure Ctx (P : Program) (C : CallF) (N : Nat) (all : List Oper) (e : Nat → Env) (h : Nat → Heap) (v : Nat → Value) : Prop where
  T : Trc P C N all (befs all []) 0 all.length e h v [] []
  dok : drawOk P N all (befs all []) = true
  low : Low (h 0)
  mono : CMono C

section
variable {P : Program} {C : CallF} {N : Nat} {all : List Oper} {e : Nat → Env} {h : Nat → Heap} {v : Nat → Value}
theorem Ctx.parts (X : Ctx P C N all e h v) :
    (∀ (j : Nat) (o : Oper) (d : Tmp), all[j]? = some o → o.dst = some d → d < N) ∧
    (∀ (j : Nat) (o : Oper), all[j]? = some o → ∀ x ∈ o.after, Region.binds .any x = true → x.on < j) ∧
    (∀ (i : Nat) (o : Oper) (j : Nat) (want : Bool), all[i]? = some o → o.guard = some (j, want) → j < i ∧ ((befs all []).getD i 0).testBit j = true) ∧
    (∀ (i j : Nat) (o q : Oper), all[i]? = some o → all[j]? = some q → i ≠ j → kindOf P o.op = .act → kindOf P q.op = .act → ordered (befs all []) i j = true) ∧
    (∀ (i j : Nat) (o q : Oper) (d : Tmp), all[i]? = some o → all[j]? = some q → i ≠ j → o.dst = some d → d ∈ names all q → ordered (befs all []) i j = true) := by
  have := X.dok
  unfold drawOk at this
  simp only [Bool.and_eq_true, List.all_eq_true] at this
  obtain ⟨⟨⟨⟨h1, h2⟩, h3⟩, h4⟩, h5⟩ := this
  have pair : ∀ i j o q, all[i]? = some o → all[j]? = some q → i ≠ j → (isAct P o = true → isAct P q = true → ordered (befs all []) i j = true) ∧ (∀ d, o.dst = some d → d ∈ names all q → ordered (befs all []) i j = true) := fun i j o q hi hj hne => by
    have := h5 (o, i) (List.mk_mem_zipIdx_iff_getElem?.2 hi) (q, j) (List.mk_mem_zipIdx_iff_getElem?.2 hj)
    simp only [Bool.or_eq_true, beq_iff_eq, Bool.and_eq_true] at this
    rcases this with this | ⟨q1, q2⟩
    · exact absurd this hne
    · refine ⟨fun a b => ?_, fun d hd hm => ?_⟩
      · rcases q1 with q1 | q1
        · simp [a, b] at q1
        · exact q1
      · rcases q2 with q2 | q2
        · rw [hd] at q2; simp at q2; exact absurd hm q2
        · exact q2
  refine ⟨?_, ?_, ?_, ?_, ?_⟩
  · intro j o d hj hd
    have := h1 o (List.mem_of_getElem? hj)
    rw [hd] at this
    simpa using this
  · intro j o hj x hx hb
    have := h2 (o, j) (List.mk_mem_zipIdx_iff_getElem?.2 hj)
    simp only [Array.all_eq_true_iff_forall_mem] at this
    have := this x hx
    simpa [hb] using this
  · intro i o j want hi hg
    have := h4 (o, i) (List.mk_mem_zipIdx_iff_getElem?.2 hi)
    simp only [hg, Bool.and_eq_true, decide_eq_true_eq] at this
    exact this
  · intro i j o q hi hj hne ka kb
    exact (pair i j o q hi hj hne).1 (by simp [isAct, ka]) (by simp [isAct, kb])
  · intro i j o q d hi hj hne hd hm
    exact (pair i j o q hi hj hne).2 d hd hm
theorem Ctx.mono1 (X : Ctx P C N all e h v) {i : Nat} (hi : i < all.length) : Mono (h i) (h (i + 1)) := by
  have ho := List.getElem?_eq_getElem hi
  by_cases hw : wantedE all (all[i]) (e i) = true
  · exact aop_mono X.mono (X.T.yes i _ (Nat.zero_le _) hi ho hw)
  · have := (X.T.no i _ (Nat.zero_le _) hi ho (by simpa using hw)).2
    rw [this]; exact Mono.refl _
theorem Ctx.monoN (X : Ctx P C N all e h v) {i j : Nat} (hij : i ≤ j) (hj : j ≤ all.length) : Mono (h i) (h j) := by
  obtain ⟨d, rfl⟩ := Nat.exists_eq_add_of_le hij
  induction d with
  | zero => exact Mono.refl _
  | succ d ih => exact (ih (by omega) (by omega)).trans (X.mono1 (by omega))
theorem Ctx.lowN (X : Ctx P C N all e h v) {i : Nat} (hi : i ≤ all.length) : Low (h i) := (X.monoN (Nat.zero_le _) hi).2 X.low
/-- What is no call and no store leaves blocks as they are. -/
theorem Ctx.quiet (X : Ctx P C N all e h v) {i : Nat} {o : Oper} (hi : i < all.length) (ho : all[i]? = some o) (hq : ¬ (kindOf P o.op = .act ∧ wantedE all o (e i) = true)) {b : Nat} (hb : b < (h i).n) : (h (i + 1)).get b = (h i).get b := by
  by_cases hw : wantedE all o (e i) = true
  · have hy := X.T.yes i o (Nat.zero_le _) hi ho hw
    cases hk : kindOf P o.op with
    | pure => rw [(kind_pure hk hy).1]
    | read => rw [(kind_read hk hy).1]
    | make =>
      obtain ⟨blk, hp, _⟩ := kind_make hk hy
      rw [hp]
      simp only [Heap.push]
      rw [if_neg (by omega)]
    | act => exact absurd ⟨hk, hw⟩ hq
  · rw [(X.T.no i o (Nat.zero_le _) hi ho (by simpa using hw)).2]
theorem Ctx.stable (X : Ctx P C N all e h v) {x y b : Nat} (hxy : x ≤ y) (hy : y ≤ all.length) (hb : b < (h x).n)
    (hs : ∀ i o, x ≤ i → i < y → all[i]? = some o → kindOf P o.op = .act → wantedE all o (e i) = true → (h (i + 1)).get b = (h i).get b) : (h y).get b = (h x).get b := by
  obtain ⟨d, rfl⟩ := Nat.exists_eq_add_of_le hxy
  induction d with
  | zero => rfl
  | succ d ih =>
    have hlt : x + d < all.length := by omega
    have ho := List.getElem?_eq_getElem hlt
    have hbd : b < (h (x + d)).n := Nat.lt_of_lt_of_le hb (X.monoN (Nat.le_add_right _ _) (by omega)).1
    rw [show x + (d + 1) = x + d + 1 by omega, ← ih (by omega) (by omega) (fun i o h1 h2 => hs i o h1 (by omega))]
    by_cases hq : kindOf P (all[x + d]).op = .act ∧ wantedE all (all[x + d]) (e (x + d)) = true
    · exact hs (x + d) _ (by omega) (by omega) ho hq.1 hq.2
    · exact X.quiet hlt ho hq hbd
/-- Where nobody writes a temporary it stays. -/
theorem Ctx.envStay (X : Ctx P C N all e h v) {x y : Nat} {t : Tmp} (hxy : x ≤ y) (hy : y ≤ all.length) (hn : ∀ i o, x ≤ i → i < y → all[i]? = some o → o.dst ≠ some t) : e y t = e x t := by
  obtain ⟨d, rfl⟩ := Nat.exists_eq_add_of_le hxy
  induction d with
  | zero => rfl
  | succ d ih =>
    have hlt : x + d < all.length := by omega
    have ho := List.getElem?_eq_getElem hlt
    rw [show x + (d + 1) = x + d + 1 by omega, X.T.put (x + d) _ (Nat.zero_le _) hlt ho, ← ih (by omega) (by omega) (fun i o h1 h2 => hn i o h1 (by omega))]
    have := hn (x + d) _ (by omega) (by omega) ho
    unfold putE
    cases hd : (all[x + d]).dst with
    | none => rfl
    | some d' =>
      simp only
      by_cases hN : d' < N
      · rw [if_pos hN, if_neg (fun he => this (by rw [hd, he]))]
      · rw [if_neg hN]
theorem Ctx.envPut (X : Ctx P C N all e h v) {i : Nat} {o : Oper} {t : Tmp} (hi : i < all.length) (ho : all[i]? = some o) (hd : o.dst = some t) : e (i + 1) t = v i := by
  rw [X.T.put i o (Nat.zero_le _) hi ho]
  have := X.parts.1 i o t ho hd
  simp [putE, hd, this]
end

/-- What holds when the operations of D have been carried out: all calls and stores ahead of nx, none from there on. -/
structure Inv (P : Program) (N : Nat) (all : List Oper) (e : Nat → Env) (h : Nat → Heap) (m0 : Mp) (w0 : World) (df : List Deferred) (D : Nat → Prop) (nx : Nat) (env : Env) (a : Act) (m : Mp) (V : Heap) (w : World) : Prop where
  cl : ∀ j o, all[j]? = some o → D j → ∀ x ∈ o.after, Region.binds .any x = true → D x.on
  nxle : nx ≤ all.length
  ahead : ∀ i o, all[i]? = some o → kindOf P o.op = .act → i < nx → D i
  behind : ∀ i o, all[i]? = some o → kindOf P o.op = .act → nx ≤ i → ¬ D i
  rel : HRel m V w
  ml : MLow m V.n
  x : ∀ b, b < (h 0).n → m b = m0 b
  mp : ∀ b p, m b = some p → b < (h 0).n ∨ ∃ i, D i ∧ i < all.length ∧ (h i).n ≤ b ∧ b < (h (i + 1)).n
  c1 : ∀ b p, m b = some p → b < (h nx).n → V.get b = (h nx).get b
  c2 : ∀ b p, m b = some p → (h nx).n ≤ b → ∀ i, i < all.length → (h i).n ≤ b → b < (h (i + 1)).n → V.get b = (h (i + 1)).get b
  l1 : ∀ k, k ≤ nx → ∀ b p blk, m b = some p → b < (h k).n → (h k).get b = some blk → ∀ (j : Nat) y, blk.vals[j]? = some y → Loc (h k).n y
  l2 : ∀ b p blk, m b = some p → (h nx).n ≤ b → V.get b = some blk → ∀ i, i < all.length → (h i).n ≤ b → b < (h (i + 1)).n → ∀ (j : Nat) y, blk.vals[j]? = some y → Loc (h (i + 1)).n y
  one : ∀ b blk, (h nx).get b = some blk → blk.cells.all oneC = true
  fz : ∀ b blk, b < (h 0).n → blk.own = false → ((h 0).get b = some blk ↔ (h nx).get b = some blk)
  fr : ∀ b blk, (h 0).n ≤ b → (h nx).get b = some blk → blk.own = true
  en : ∀ j o t, all[j]? = some o → ¬ D j → t ∈ names all o → (∀ k q, k < j → all[k]? = some q → q.dst = some t → D k) → env t = e j t ∧ VRel (restr m (h j).n) (env t) (a.tmps.getD t undef)
  enF : ∀ t, (∀ k q, all[k]? = some q → q.dst = some t → D k) → env t = e all.length t ∧ VRel m (env t) (a.tmps.getD t undef)
  size : w0.heap.size ≤ w.heap.size
  frame : ∀ c, c < w0.heap.size → (∀ b blk p, (h 0).get b = some blk → blk.own = true → m0 b = some p → p.blk ≠ c) → w.heap[c]? = w0.heap[c]?
  own : ∀ b blk p, V.get b = some blk → blk.own = true → m b = some p → p.blk < w0.heap.size → ∃ b0 blk0 p0, (h 0).get b0 = some blk0 ∧ blk0.own = true ∧ m0 b0 = some p0 ∧ p0.blk = p.blk
  os : w.os = w0.os
  tape : w.tape = w0.tape
  output : w.output = w0.output
  asz : a.tmps.size = N
  adf : a.defers = df

section
variable {P : Program} {C : CallF} {N : Nat} {all : List Oper} {e : Nat → Env} {h : Nat → Heap} {v : Nat → Value} {m0 : Mp} {w0 : World} {df : List Deferred} {D : Nat → Prop} {nx : Nat} {env : Env} {a : Act} {m : Mp} {V : Heap} {w : World}

/-- Another place between the calls that are done and those that aren't. -/
theorem Inv.move (X : Ctx P C N all e h v) (I : Inv P N all e h m0 w0 df D nx env a m V w) {nx' : Nat} (hle : nx ≤ nx') (hn : nx' ≤ all.length) (hno : ∀ i o, nx ≤ i → i < nx' → all[i]? = some o → ¬ (kindOf P o.op = .act ∧ wantedE all o (e i) = true))
    (h1 : ∀ i o, all[i]? = some o → kindOf P o.op = .act → i < nx' → D i) (h2 : ∀ i o, all[i]? = some o → kindOf P o.op = .act → nx' ≤ i → ¬ D i) : Inv P N all e h m0 w0 df D nx' env a m V w := by
  have hst : ∀ b, b < (h nx).n → (h nx').get b = (h nx).get b := fun b hb => X.stable hle hn hb fun i o q1 q2 q3 q4 q5 => absurd ⟨q4, q5⟩ (hno i o q1 q2 q3)
  have hmono := (X.monoN hle hn).1
  have h0 := (X.monoN (Nat.zero_le nx) I.nxle).1
  have mk : ∀ b, (h nx).n ≤ b → b < (h nx').n → ∃ i, nx ≤ i ∧ i < nx' ∧ (h i).n ≤ b ∧ b < (h (i + 1)).n := by
    intro b hb1 hb2
    have key : ∀ d, nx + d ≤ nx' → b < (h (nx + d)).n → ∃ i, nx ≤ i ∧ i < nx' ∧ (h i).n ≤ b ∧ b < (h (i + 1)).n := by
      intro d
      induction d with
      | zero => intro _ hb; simp only [Nat.add_zero] at hb; omega
      | succ d ih =>
        intro hd hb
        by_cases hc : b < (h (nx + d)).n
        · exact ih (by omega) hc
        · exact ⟨nx + d, by omega, by omega, by omega, hb⟩
    exact key (nx' - nx) (by omega) (by rw [Nat.add_sub_cancel' hle]; exact hb2)
  have stab2 : ∀ i b, nx ≤ i → i < nx' → b < (h (i + 1)).n → (h nx').get b = (h (i + 1)).get b := fun i b q1 q2 hb => X.stable (by omega) hn hb fun j o r1 r2 r3 r4 r5 => absurd ⟨r4, r5⟩ (hno j o (by omega) r2 r3)
  -- a block that was made between the two places
  have made : ∀ i b blk, nx ≤ i → i < nx' → (h i).n ≤ b → b < (h (i + 1)).n → (h (i + 1)).get b = some blk → blk.own = true ∧ blk.cells.all oneC = true := fun i b blk q1 q2 q3 q4 q5 => by
    have hlt : i < all.length := by omega
    have ho := List.getElem?_eq_getElem hlt
    by_cases hw : wantedE all (all[i]) (e i) = true
    · have hy := X.T.yes i _ (Nat.zero_le _) hlt ho hw
      cases hk : kindOf P (all[i]).op with
      | pure => rw [(kind_pure hk hy).1] at q4; omega
      | read => rw [(kind_read hk hy).1] at q4; omega
      | make =>
        obtain ⟨blk', hp, ho1, hH⟩ := kind_make hk hy
        rw [hp] at q4 q5
        simp only [Heap.push] at q4 q5
        rw [if_pos (by omega)] at q5
        injection q5 with q5; subst q5
        exact ⟨ho1.2, ho1.1⟩
      | act => exact absurd ⟨hk, hw⟩ (hno i _ q1 q2 ho)
    · rw [(X.T.no i _ (Nat.zero_le _) hlt ho (by simpa using hw)).2] at q4; omega
  refine { I with nxle := hn, ahead := h1, behind := h2, c1 := ?_, c2 := ?_, l1 := ?_, l2 := ?_, one := ?_, fz := ?_, fr := ?_ }
  · intro b p hp hb
    by_cases hc : b < (h nx).n
    · rw [I.c1 b p hp hc, hst b hc]
    · obtain ⟨i, q1, q2, q3, q4⟩ := mk b (by omega) hb
      rw [I.c2 b p hp (by omega) i (by omega) q3 q4, stab2 i b q1 q2 q4]
  · intro b p hp hb i hi q1 q2
    exact I.c2 b p hp (by omega) i hi q1 q2
  · intro k hk b p blk hp hb hv j y hy
    by_cases hkn : k ≤ nx
    · exact I.l1 k hkn b p blk hp hb hv j y hy
    · have hmk := (X.monoN (show nx ≤ k by omega) (by omega)).1
      by_cases hc : b < (h nx).n
      · rw [X.stable (show nx ≤ k by omega) (by omega) hc fun i o q1 q2 q3 q4 q5 => absurd ⟨q4, q5⟩ (hno i o q1 (by omega) q3)] at hv
        exact (I.l1 nx (Nat.le_refl _) b p blk hp hc hv j y hy).mono hmk
      · have hbn : b < (h nx').n := Nat.lt_of_lt_of_le hb (X.monoN hk hn).1
        obtain ⟨i, q1, q2, q3, q4⟩ := mk b (by omega) hbn
        have hik : i + 1 ≤ k := by
          rcases Nat.lt_or_ge i k with h1 | h1
          · exact h1
          · have := (X.monoN h1 (by omega)).1; omega
        rw [X.stable hik (by omega) q4 fun j o r1 r2 r3 r4 r5 => absurd ⟨r4, r5⟩ (hno j o (by omega) (by omega) r3), ← I.c2 b p hp (by omega) i (by omega) q3 q4] at hv
        exact (I.l2 b p blk hp (by omega) hv i (by omega) q3 q4 j y hy).mono (X.monoN hik (by omega)).1
  · intro b p blk hp hb hv i hi q1 q2 j y hy
    exact I.l2 b p blk hp (by omega) hv i hi q1 q2 j y hy
  · intro b blk hb
    have hlt := X.lowN hn b blk hb
    by_cases hc : b < (h nx).n
    · rw [hst b hc] at hb; exact I.one b blk hb
    · obtain ⟨i, q1, q2, q3, q4⟩ := mk b (by omega) hlt
      rw [stab2 i b q1 q2 q4] at hb
      exact (made i b blk q1 q2 q3 q4 hb).2
  · intro b blk hb ho
    rw [I.fz b blk hb ho, hst b (by omega)]
  · intro b blk hb hg
    have hlt := X.lowN hn b blk hg
    by_cases hc : b < (h nx).n
    · rw [hst b hc] at hg; exact I.fr b blk hb hg
    · obtain ⟨i, q1, q2, q3, q4⟩ := mk b (by omega) hlt
      rw [stab2 i b q1 q2 q4] at hg
      exact (made i b blk q1 q2 q3 q4 hg).1
end

end Go.Eng
