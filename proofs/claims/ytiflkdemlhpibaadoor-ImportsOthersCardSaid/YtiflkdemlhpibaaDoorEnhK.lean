/- Regions whose order is drawn: what an operation looks at, and what it leaves. -/
import Derived.Test.YtiflkdemlhpibaaDoorEnhH
import Derived.Still
set_option linter.unusedVariables false
namespace Go.Eng
open Go

theorem eqVal_eq {a b : Value} (h : eqVal a b = true) : a = b := by
  unfold eqVal at h
  split at h <;> first
    | (simp only [beq_iff_eq] at h; rw [h]; done)
    | (simp only [Bool.and_eq_true, beq_iff_eq] at h; obtain ⟨h1, h2⟩ := h; rw [h1, h2]; done)
    | (simp only [Bool.and_eq_true, beq_iff_eq] at h; obtain ⟨⟨h1, h2⟩, h3⟩ := h; rw [h1, h2, h3]; done)
    | rfl
    | (simp only [beq_iff_eq] at h
       rename_i x y
       obtain ⟨⟨x⟩⟩ := x
       obtain ⟨⟨y⟩⟩ := y
       simp only at h
       rw [h]; done)
    | (cases h; done)
theorem eqCells_eq : ∀ {l m : List Value}, eqCells l m = true → l = m
  | [], [], _ => rfl
  | a :: l, b :: m, h => by
    simp only [eqCells, Bool.and_eq_true] at h
    rw [eqVal_eq h.1, eqCells_eq h.2]
  | [], b :: m, h => by cases h
  | a :: l, [], h => by cases h
theorem eqBlk_eq {x y : Blk} (h : eqBlk x y = true) : x = y := by
  simp only [eqBlk, Bool.and_eq_true, beq_iff_eq] at h
  obtain ⟨⟨⟨⟨h1, h2⟩, h3⟩, h4⟩, h5⟩ := h
  obtain @⟨x1, x2, x3, ⟨x4⟩⟩ := x
  obtain @⟨y1, y2, y3, ⟨y4⟩⟩ := y
  simp only [Blk.plain, Option.isNone_iff_eq_none] at h1 h2 h3 h4 h5
  have h1 := eqCells_eq h1
  subst h1; subst h2; subst h3; subst h4; subst h5
  rfl
theorem sameBlk_eq {H H' : Heap} {b : Nat} (h : sameBlk H H' (some b) = true) (hb : b < H.n) : H'.get b = H.get b := by
  simp only [sameBlk, if_pos hb, Bool.or_eq_true] at h
  rcases h with h | h
  · split at h
    · rename_i x y hx hy
      rw [hx, hy, eqBlk_eq h]
    · cases h
  · simpa [same] using h
theorem sameBlk_of {H H' : Heap} {b : Option Nat} (h : ∀ c, b = some c → H'.get c = H.get c) : sameBlk H H' b = true := by
  cases b with
  | none => rfl
  | some b =>
    simp only [sameBlk]
    split
    · rw [Bool.or_eq_true]; right
      simp [same, h b rfl]
    · rfl

/-! ### what waits for what -/
def befOf (acc : List Nat) (o : Oper) : Nat := o.after.toList.foldl (fun s e => if Region.binds .any e then s ||| 2 ^ e.on ||| acc.getD e.on 0 else s) 0
theorem befs_cons (o : Oper) (rest : List Oper) (acc : List Nat) : befs (o :: rest) acc = befs rest (acc ++ [befOf acc o]) := rfl
theorem befs_pre : ∀ (l : List Oper) (acc : List Nat) (k : Nat), k < acc.length → (befs l acc)[k]? = acc[k]?
  | [], acc, k, _ => rfl
  | o :: l, acc, k, h => by
    rw [befs_cons, befs_pre l _ k (by simp; omega), List.getElem?_append_left h]
theorem befs_at : ∀ (l : List Oper) (acc : List Nat) (i : Nat) (o : Oper), l[i]? = some o → ∃ pre : List Nat, pre.length = acc.length + i ∧ (∀ k, k < pre.length → (befs l acc)[k]? = pre[k]?) ∧ (befs l acc)[acc.length + i]? = some (befOf pre o)
  | [], acc, i, o, h => by simp at h
  | q :: l, acc, 0, o, h => by
    simp at h
    subst h
    refine ⟨acc, rfl, fun k hk => befs_pre _ _ k hk, ?_⟩
    rw [befs_cons, befs_pre _ _ _ (by simp)]
    simp
  | q :: l, acc, i + 1, o, h => by
    obtain ⟨pre, h1, h2, h3⟩ := befs_at l (acc ++ [befOf acc q]) i o (by simpa using h)
    refine ⟨pre, by simp at h1; omega, fun k hk => by rw [befs_cons]; exact h2 k hk, ?_⟩
    rw [befs_cons]
    simp only [List.length_append, List.length_singleton] at h3
    rw [show acc.length + (i + 1) = acc.length + 1 + i by omega]
    exact h3
theorem foldl_bit (acc : List Nat) (i : Nat) : ∀ (es : List Edge) (s : Nat), (es.foldl (fun s e => if Region.binds .any e then s ||| 2 ^ e.on ||| acc.getD e.on 0 else s) s).testBit i = true →
    s.testBit i = true ∨ ∃ e ∈ es, Region.binds .any e = true ∧ (e.on = i ∨ (acc.getD e.on 0).testBit i = true)
  | [], s, h => .inl h
  | e :: es, s, h => by
    simp only [List.foldl_cons] at h
    rcases foldl_bit acc i es _ h with h1 | ⟨e', he, h1⟩
    · split at h1
      · rename_i hb
        simp only [Nat.testBit_or, Bool.or_eq_true, Nat.testBit_two_pow, decide_eq_true_eq] at h1
        rcases h1 with (h1 | h1) | h1
        · exact .inl h1
        · exact .inr ⟨e, by simp, hb, .inl h1⟩
        · exact .inr ⟨e, by simp, hb, .inr h1⟩
      · exact .inl h1
    · exact .inr ⟨e', by simp [he], h1⟩
/-- A bit of a set is an edge, or one of an edge's. -/
theorem bef_edge {all : List Oper} {i j : Nat} {o : Oper} (hj : all[j]? = some o) (hdown : ∀ e ∈ o.after, Region.binds .any e = true → e.on < j) (h : ((befs all []).getD j 0).testBit i = true) :
    ∃ e ∈ o.after, Region.binds .any e = true ∧ (e.on = i ∨ ((befs all []).getD e.on 0).testBit i = true) := by
  obtain ⟨pre, h1, h2, h3⟩ := befs_at all [] j o hj
  simp only [List.length_nil, Nat.zero_add] at h1 h3
  rw [List.getD_eq_getElem?_getD, h3, Option.getD_some] at h
  rcases foldl_bit pre i o.after.toList 0 h with h4 | ⟨e, he, hb, h4⟩
  · simp at h4
  · refine ⟨e, by simpa using he, hb, ?_⟩
    have hlt := hdown e (by simpa using he) hb
    rcases h4 with h4 | h4
    · exact .inl h4
    · right
      rw [List.getD_eq_getElem?_getD, h2 e.on (by omega), ← List.getD_eq_getElem?_getD]
      exact h4
/-- What an operation waits for stands ahead of it. -/
theorem bef_lt {all : List Oper} (hdown : ∀ j o, all[j]? = some o → ∀ e ∈ o.after, Region.binds .any e = true → e.on < j) : ∀ (j i : Nat) {o : Oper}, all[j]? = some o → ((befs all []).getD j 0).testBit i = true → i < j := by
  intro j
  induction j using Nat.strongRecOn with
  | _ j ih =>
    intro i o hj h
    obtain ⟨e, he, hb, h1⟩ := bef_edge hj (hdown j o hj) h
    have hlt := hdown j o hj e he hb
    rcases h1 with h1 | h1
    · omega
    · have : e.on < all.length := Nat.lt_trans hlt (List.getElem?_eq_some_iff.1 hj).1
      have := ih e.on hlt i (List.getElem?_eq_getElem this) h1
      omega
/-- In a set that bears with each operation what it has edges to, each operation that could come up has what it waits for. -/
theorem bef_done {all : List Oper} (hdown : ∀ j o, all[j]? = some o → ∀ e ∈ o.after, Region.binds .any e = true → e.on < j) {D : Nat → Prop} (hD : ∀ j o, all[j]? = some o → D j → ∀ e ∈ o.after, Region.binds .any e = true → D e.on) :
    ∀ (j i : Nat) {o : Oper}, all[j]? = some o → (∀ e ∈ o.after, Region.binds .any e = true → D e.on) → ((befs all []).getD j 0).testBit i = true → D i := by
  intro j
  induction j using Nat.strongRecOn with
  | _ j ih =>
    intro i o hj hr h
    obtain ⟨e, he, hb, h1⟩ := bef_edge hj (hdown j o hj) h
    rcases h1 with h1 | h1
    · exact h1 ▸ hr e he hb
    · have hlt := hdown j o hj e he hb
      have hlt' : e.on < all.length := Nat.lt_trans hlt (List.getElem?_eq_some_iff.1 hj).1
      have hq := List.getElem?_eq_getElem hlt'
      exact ih e.on hlt i hq (hD e.on _ hq (hr e he hb)) h1

/-! ### what an operation looks at -/
theorem aop_congr {P : Program} {C : CallF} {env env' : Env} {o : Op} {H : Heap} (h : ∀ x ∈ o.operands, ev env x = ev env' x) : aop P C env o H = aop P C env' o H := by
  have pairs : ∀ ps : Array (Nat × Operand), (∀ x ∈ (ps.toList.map (·.2)).toArray, ev env x = ev env' x) → (ps.toList.map fun (i, x) => (i, ev env x)) = (ps.toList.map fun (i, x) => (i, ev env' x)) := fun ps hp =>
    List.map_congr_left fun p hm => by
      obtain ⟨i, x⟩ := p
      simp only [hp x (by simp; exact ⟨i, by simpa using hm⟩)]
  have pairs2 : ∀ (ps : Array (Nat × Operand)) (sz : Nat), (∀ x ∈ (ps.toList.map (·.2)).toArray, ev env x = ev env' x) → (ps.toList.map fun (i, x) => (i * sz, sz, ev env x)) = (ps.toList.map fun (i, x) => (i * sz, sz, ev env' x)) := fun ps sz hp =>
    List.map_congr_left fun p hm => by
      obtain ⟨i, x⟩ := p
      simp only [hp x (by simp; exact ⟨i, by simpa using hm⟩)]
  have arr : ∀ xs : Array Operand, (∀ x ∈ xs, ev env x = ev env' x) → xs.map (ev env) = xs.map (ev env') := fun xs hx => Array.map_congr_left fun x hm => hx x hm
  have lst : ∀ xs : Array Operand, (∀ x ∈ xs, ev env x = ev env' x) → xs.toList.map (ev env) = xs.toList.map (ev env') := fun xs hx => List.map_congr_left fun x hm => hx x (by simpa using hm)
  have opt : ∀ x : Option Operand, (∀ y ∈ x.toArray, ev env y = ev env' y) → x.map (ev env) = x.map (ev env') := fun x hx => by
    cases x with
    | none => rfl
    | some x => simp only [Option.map_some, hx x (by simp)]
  cases o <;> simp only [Op.operands] at h <;> simp only [aop]
  case build t ps => simp only [pairs ps h]
  case buildSlice t n ps => simp only [pairs2 ps _ h]
  case makeFunc fn first captured =>
    cases fn <;> simp only [aop]
    rw [arr first (fun x hx => h x (by simp [hx])), arr captured (fun x hx => h x (by simp [hx]))]
  case makeMap t r => rw [opt r h]
  case next x b =>
    have := h x (by simp)
    cases b <;> simp only [aop, this]
  case slice t x lo hi mx =>
    simp only [Array.mem_append] at h
    rw [h x (.inl (.inl (.inl (by simp)))), opt lo (fun y hy => h y (.inl (.inl (.inr hy)))), opt hi (fun y hy => h y (.inl (.inr hy))), opt mx (fun y hy => h y (.inr hy))]
  case call c =>
    obtain ⟨callee, args, argTypes⟩ := c
    simp only [Call.operands, Array.mem_append] at h
    cases callee with
    | value f =>
      simp only
      rw [h f (.inl (by simp)), lst args (fun x hx => h x (.inr hx))]
    | invoke r n => rfl
    | builtin b =>
      simp only
      rw [lst args (fun x hx => h x (.inr hx))]
  all_goals first
    | rfl
    | (simp at h; rw [h]; done)
    | (simp at h; simp only [h]; done)
    | skip

end Go.Eng
