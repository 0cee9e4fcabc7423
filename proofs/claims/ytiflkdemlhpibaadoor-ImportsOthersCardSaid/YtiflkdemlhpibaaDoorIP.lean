/- Which files a project has, plainly: no program in sight. -/
set_option linter.unusedSimpArgs false
set_option linter.unusedVariables false
namespace Go.Eng

/-- A file: its path, and what it imports. -/
structure En where
  P : List UInt8
  I : List (List UInt8)
/-- Where a path's file is. -/
def findN : List En → List UInt8 → Option Nat
  | [], _ => none
  | e :: l, p => if e.P = p then some 0 else (findN l p).map (· + 1)
def pathN (l : List En) (i : Nat) : List UInt8 := match l[i]? with | some e => e.P | none => []
def impN (l : List En) (i : Nat) : List (List UInt8) := match l[i]? with | some e => e.I | none => []
theorem find_some : ∀ {l : List En} {p : List UInt8} {k : Nat}, findN l p = some k → ∃ e, l[k]? = some e ∧ e.P = p ∧ ∀ j, j < k → ∀ e', l[j]? = some e' → e'.P ≠ p
  | [], _, _, h => by cases h
  | e :: l, p, k, h => by
    simp only [findN] at h
    split at h
    · rename_i he
      injection h with h; subst h
      exact ⟨e, rfl, he, fun j hj => by omega⟩
    · rename_i he
      cases hf : findN l p with
      | none => rw [hf] at h; cases h
      | some j =>
        rw [hf] at h
        simp only [Option.map_some, Option.some.injEq] at h
        subst h
        obtain ⟨e', h1, h2, h3⟩ := find_some hf
        refine ⟨e', by simpa using h1, h2, fun i hi e'' he'' => ?_⟩
        cases i with
        | zero => simp at he''; subst he''; exact he
        | succ i => exact h3 i (by omega) e'' (by simpa using he'')
theorem find_lt {l : List En} {p : List UInt8} {k : Nat} (h : findN l p = some k) : k < l.length := by
  obtain ⟨e, h1, _⟩ := find_some h
  exact (List.getElem?_eq_some_iff.1 h1).1
theorem find_none : ∀ {l : List En} {p : List UInt8}, findN l p = none → ∀ e ∈ l, e.P ≠ p
  | [], _, _, e, he => by cases he
  | x :: l, p, h, e, he => by
    simp only [findN] at h
    split at h
    · cases h
    · rename_i hx
      simp only [Option.map_eq_none_iff] at h
      simp only [List.mem_cons] at he
      rcases he with rfl | he
      · exact hx
      · exact find_none h e he
theorem find_path {l : List En} {p : List UInt8} {k : Nat} (h : findN l p = some k) : pathN l k = p := by
  obtain ⟨e, h1, h2, _⟩ := find_some h
  simp only [pathN, h1, h2]
/-- No path twice. -/
def Dist (l : List En) : Prop := (l.map (·.P)).Nodup
instance (l : List En) : Decidable (Dist l) := inferInstanceAs (Decidable (List.Nodup _))
def mayN (l : List En) : Int := if 1000 < l.length then 5 else if Dist l then 0 else 2
theorem find_self {l : List En} (hd : Dist l) {i : Nat} {e : En} (he : l[i]? = some e) : findN l e.P = some i := by
  cases h : findN l e.P with
  | none => exact absurd rfl (find_none h e (List.mem_of_getElem? he))
  | some k =>
    obtain ⟨e', h1, h2, _⟩ := find_some h
    have hi := (List.getElem?_eq_some_iff.1 he).1
    have hk := (List.getElem?_eq_some_iff.1 h1).1
    congr 1
    have e1 : (l.map (·.P))[k]? = some e.P := by simp [h1, h2]
    have e2 : (l.map (·.P))[i]? = some e.P := by simp [he]
    rcases Nat.lt_trichotomy k i with h | h | h
    · exact absurd (e1.trans e2.symm) (by
        have := List.pairwise_iff_getElem.1 hd k i (by simpa using hk) (by simpa using hi) h
        rw [List.getElem?_eq_getElem (by simpa using hk), List.getElem?_eq_getElem (by simpa using hi)]
        intro hh; injection hh with hh; exact this hh)
    · exact h
    · exact absurd (e2.trans e1.symm) (by
        have := List.pairwise_iff_getElem.1 hd i k (by simpa using hi) (by simpa using hk) h
        rw [List.getElem?_eq_getElem (by simpa using hi), List.getElem?_eq_getElem (by simpa using hk)]
        intro hh; injection hh with hh; exact this hh)

/-! ### what is reached -/
def edge (l : List En) (i j : Nat) : Prop := ∃ p ∈ impN l i, findN l p = some j
inductive Rch (l : List En) : Nat → Nat → Prop where
  | refl (i : Nat) : Rch l i i
  | step {i j k : Nat} (h : edge l i j) (t : Rch l j k) : Rch l i k
theorem Rch.trans {l : List En} {i j k : Nat} (h : Rch l i j) (t : Rch l j k) : Rch l i k := by
  induction h with
  | refl => exact t
  | step e _ ih => exact .step e (ih t)
theorem Rch.snoc {l : List En} {i j k : Nat} (h : Rch l i j) (t : edge l j k) : Rch l i k := h.trans (.step t (.refl k))
theorem edge_lt {l : List En} {i j : Nat} (h : edge l i j) : j < l.length := by
  obtain ⟨p, _, h⟩ := h
  exact find_lt h
theorem Rch.lt {l : List En} {i j : Nat} (h : Rch l i j) (hi : i < l.length) : j < l.length := by
  induction h with
  | refl => exact hi
  | step e _ ih => exact ih (edge_lt e)
/-- What holds the root and is closed holds all that is reached. -/
theorem Rch.closed {l : List En} {S : Nat → Prop} (hS : ∀ i j, S i → edge l i j → S j) {i k : Nat} (h : Rch l i k) (hi : S i) : S k := by
  induction h with
  | refl => exact hi
  | step e _ ih => exact ih (hS _ _ hi e)

/-! ### an order -/
structure Dfs where
  st : List Nat
  many : Nat
  ord : List Nat
def goL (l : List En) (g : Nat → Dfs → Dfs × Option (List UInt8 × Int)) : List (List UInt8) → Dfs → Dfs × Option (List UInt8 × Int)
  | [], s => (s, none)
  | p :: ps, s => match findN l p with
    | none => (s, some (p, 160))
    | some k => if s.st[k]? = some 1 then (s, some (p, 161)) else if s.st[k]? = some 2 then goL l g ps s else
      match (g k s).2 with
      | some e => ((g k s).1, some e)
      | none => goL l g ps (g k s).1
def dfs (l : List En) : Nat → Nat → Dfs → Dfs × Option (List UInt8 × Int)
  | 0, _, s => (s, none)
  | n + 1, i, s => if 32 ≤ s.many then (s, some (pathN l i, 5)) else
      match (goL l (dfs l n) (impN l i) ⟨s.st.set i 1, s.many + 1, s.ord⟩).2 with
      | some e => ((goL l (dfs l n) (impN l i) ⟨s.st.set i 1, s.many + 1, s.ord⟩).1, some e)
      | none => (⟨(goL l (dfs l n) (impN l i) ⟨s.st.set i 1, s.many + 1, s.ord⟩).1.st.set i 2, (goL l (dfs l n) (impN l i) ⟨s.st.set i 1, s.many + 1, s.ord⟩).1.many, (goL l (dfs l n) (impN l i) ⟨s.st.set i 1, s.many + 1, s.ord⟩).1.ord ++ [i]⟩, none)
def dfs0 (l : List En) : Dfs := ⟨List.replicate l.length 0, 0, []⟩
def orderN (root : List UInt8) (l : List En) : List Nat × List UInt8 × Int :=
  if mayN l ≠ 0 then ([], [], mayN l) else match findN l root with
  | none => ([], root, 160)
  | some i => match (dfs l 33 i (dfs0 l)).2 with
    | some (p, e) => ([], p, e)
    | none => ((dfs l 33 i (dfs0 l)).1.ord, [], 0)

/-- What holds between two calls. -/
structure DInv (l : List En) (s : Dfs) : Prop where
  len : s.st.length = l.length
  vals : ∀ (k v : Nat), s.st[k]? = some v → v ≤ 2
  two : ∀ k : Nat, s.st[k]? = some 2 ↔ k ∈ s.ord
  nod : s.ord.Nodup
  ahead : ∀ (a : List Nat) (k : Nat) (b : List Nat), s.ord = a ++ k :: b → ∀ p ∈ impN l k, ∃ j, findN l p = some j ∧ j ∈ a
  cnt : s.many + s.st.count 0 ≤ l.length
  m32 : s.many ≤ 32
/-- What a call leaves when nothing was wrong: what was fresh stays so or is through; the rest stays. -/
structure Mv (l : List En) (i : Nat) (s s' : Dfs) : Prop where
  old : ∀ (k v : Nat), s.st[k]? = some v → v ≠ 0 → s'.st[k]? = some v
  new : ∀ k : Nat, s.st[k]? = some 0 → s'.st[k]? = some 0 ∨ s'.st[k]? = some 2
  ord : ∃ m, s'.ord = s.ord ++ m ∧ ∀ k ∈ m, Rch l i k
  many : s.many ≤ s'.many
theorem Mv.refl (l : List En) (i : Nat) (s : Dfs) : Mv l i s s := ⟨fun _ _ h _ => h, fun _ h => .inl h, ⟨[], by simp, by simp⟩, Nat.le_refl _⟩
theorem Mv.trans {l : List En} {i : Nat} {a b c : Dfs} (h : Mv l i a b) (t : Mv l i b c) : Mv l i a c := by
  refine ⟨fun k v hv h0 => t.old k v (h.old k v hv h0) h0, fun k hk => ?_, ?_, Nat.le_trans h.many t.many⟩
  · rcases h.new k hk with h1 | h1
    · exact t.new k h1
    · exact .inr (t.old k 2 h1 (by omega))
  · obtain ⟨m, h1, h2⟩ := h.ord
    obtain ⟨m', h3, h4⟩ := t.ord
    exact ⟨m ++ m', by rw [h3, h1, List.append_assoc], fun k hk => by
      rcases List.mem_append.1 hk with hk | hk
      · exact h2 k hk
      · exact h4 k hk⟩
theorem Mv.up {l : List En} {i j : Nat} {a b : Dfs} (h : Mv l j a b) (e : Rch l i j) : Mv l i a b := by
  obtain ⟨h1, h2, ⟨m, h3, h4⟩, h5⟩ := h
  exact ⟨h1, h2, ⟨m, h3, fun k hk => e.trans (h4 k hk)⟩, h5⟩
/-- What was wrong. -/
def Wrong (l : List En) (i : Nat) (e : List UInt8 × Int) : Prop :=
  (e.2 = 5 ∧ 32 ≤ l.length) ∨ (e.2 = 160 ∧ findN l e.1 = none ∧ ∃ x, Rch l i x ∧ e.1 ∈ impN l x) ∨ (e.2 = 161 ∧ ∃ x k, Rch l i x ∧ e.1 ∈ impN l x ∧ findN l e.1 = some k ∧ Rch l k x)
theorem Wrong.up {l : List En} {i j : Nat} {e : List UInt8 × Int} (h : Wrong l j e) (t : Rch l i j) : Wrong l i e := by
  rcases h with h | ⟨h1, h2, x, h3, h4⟩ | ⟨h1, x, k, h2, h3, h4, h5⟩
  · exact .inl h
  · exact .inr (.inl ⟨h1, h2, x, t.trans h3, h4⟩)
  · exact .inr (.inr ⟨h1, x, k, t.trans h2, h3, h4, h5⟩)
theorem set_get {l : List Nat} {i k v : Nat} (hi : i < l.length) : (l.set i v)[k]? = if k = i then some v else l[k]? := by
  rw [List.getElem?_set]
  by_cases h : i = k
  · subst h; simp [hi]
  · rw [if_neg h, if_neg (Ne.symm h)]
theorem cntS {l : List Nat} {i : Nat} (h : l[i]? = some 0) : (l.set i 1).count 0 + 1 = l.count 0 := by
  induction l generalizing i with
  | nil => simp at h
  | cons x l ih =>
    cases i with
    | zero => simp at h; subst h; simp [List.count_cons]
    | succ i =>
      simp only [List.getElem?_cons_succ] at h
      simp only [List.set_cons_succ, List.count_cons]
      have := ih h
      omega
theorem cntS2 {l : List Nat} {i : Nat} (h : l[i]? = some 1) : (l.set i 2).count 0 = l.count 0 := by
  induction l generalizing i with
  | nil => simp at h
  | cons x l ih =>
    cases i with
    | zero => simp at h; subst h; simp [List.count_cons]
    | succ i =>
      simp only [List.getElem?_cons_succ] at h
      simp only [List.set_cons_succ, List.count_cons]
      have := ih h
      omega
/-- All files of whom st says 1 reach this one. -/
def Stk (l : List En) (s : Dfs) (i : Nat) : Prop := ∀ k : Nat, s.st[k]? = some 1 → Rch l k i
/-- A call's word. -/
def GoP (l : List En) (n : Nat) : Prop := ∀ (i : Nat) (s : Dfs), DInv l s → i < l.length → s.st[i]? = some 0 → 33 ≤ n + s.many → Stk l s i →
  match (dfs l n i s).2 with
  | some e => Wrong l i e
  | none => DInv l (dfs l n i s).1 ∧ Mv l i s (dfs l n i s).1 ∧ ∃ m, (dfs l n i s).1.ord = m ++ [i]
theorem goL_word {l : List En} {n i : Nat} (hG : GoP l n) : ∀ (ps : List (List UInt8)) (s : Dfs), (∀ p ∈ ps, p ∈ impN l i) → DInv l s → s.st[i]? = some 1 → 33 ≤ n + s.many → Stk l s i →
    match (goL l (dfs l n) ps s).2 with
    | some e => Wrong l i e
    | none => DInv l (goL l (dfs l n) ps s).1 ∧ Mv l i s (goL l (dfs l n) ps s).1 ∧ ∀ p ∈ ps, ∃ j, findN l p = some j ∧ j ∈ (goL l (dfs l n) ps s).1.ord
  | [], s, _, hI, _, _, _ => ⟨hI, Mv.refl l i s, by simp⟩
  | p :: ps, s, hp, hI, h1, hn, hS => by
    have hpi := hp p (by simp)
    cases hf : findN l p with
    | none =>
      simp only [goL, hf]
      exact .inr (.inl ⟨rfl, hf, i, .refl i, hpi⟩)
    | some k =>
      have hk := find_lt hf
      have hed : edge l i k := ⟨p, hpi, hf⟩
      by_cases k1 : s.st[k]? = some 1
      · simp only [goL, hf, if_pos k1]
        exact .inr (.inr ⟨rfl, i, k, .refl i, hpi, hf, hS k k1⟩)
      · by_cases k2 : s.st[k]? = some 2
        · have ih := goL_word hG ps s (fun q hq => hp q (by simp [hq])) hI h1 hn hS
          simp only [goL, hf, if_neg k1, if_pos k2]
          cases hr : (goL l (dfs l n) ps s).2 with
          | some e => rw [hr] at ih; exact ih
          | none =>
            rw [hr] at ih
            obtain ⟨g1, g2, g3⟩ := ih
            refine ⟨g1, g2, fun q hq => ?_⟩
            simp only [List.mem_cons] at hq
            rcases hq with rfl | hq
            · exact ⟨k, hf, (g1.two k).1 (g2.old k 2 k2 (by omega))⟩
            · exact g3 q hq
        · have k0 : s.st[k]? = some 0 := by
            obtain ⟨v, hv⟩ : ∃ v, s.st[k]? = some v := ⟨_, List.getElem?_eq_getElem (by rw [hI.len]; exact hk)⟩
            have := hI.vals k v hv
            rw [hv] at k1 k2 ⊢
            simp only [Option.some.injEq] at k1 k2 ⊢
            omega
          have hS' : Stk l s k := fun j hj => (hS j hj).snoc hed
          have hc := hG k s hI hk k0 hn hS'
          simp only [goL, hf, if_neg k1, if_neg k2]
          cases hr : (dfs l n k s).2 with
          | some e => rw [hr] at hc; exact hc.up (.step hed (.refl k))
          | none =>
            rw [hr] at hc
            obtain ⟨c1, c2, m, c3⟩ := hc
            simp only
            generalize (dfs l n k s).1 = s1 at *
            have ki : s1.st[i]? = some 1 := c2.old i 1 h1 (by omega)
            have hS1 : Stk l s1 i := fun j hj => by
              obtain ⟨v, hv⟩ : ∃ v, s.st[j]? = some v := ⟨_, List.getElem?_eq_getElem (by rw [hI.len, ← c1.len]; exact (List.getElem?_eq_some_iff.1 hj).1)⟩
              by_cases h0 : v = 0
              · subst h0
                rcases c2.new j hv with h | h <;> rw [h] at hj <;> cases hj
              · have := c2.old j v hv h0
                rw [this] at hj
                injection hj with hj; subst hj
                exact hS j hv
            have ih := goL_word hG ps s1 (fun q hq => hp q (by simp [hq])) c1 ki (by have := c2.many; omega) hS1
            cases hr2 : (goL l (dfs l n) ps s1).2 with
            | some e => rw [hr2] at ih; exact ih
            | none =>
              rw [hr2] at ih
              obtain ⟨g1, g2, g3⟩ := ih
              refine ⟨g1, (c2.up (.step hed (.refl k))).trans g2, fun q hq => ?_⟩
              simp only [List.mem_cons] at hq
              rcases hq with rfl | hq
              · refine ⟨k, hf, ?_⟩
                obtain ⟨m', h, _⟩ := g2.ord
                rw [h, c3]
                simp
              · exact g3 q hq
theorem dfs_word (l : List En) : ∀ n, GoP l n
  | 0 => fun i s hI hi h0 hn hS => by have := hI.m32; omega
  | n + 1 => fun i s hI hi h0 hn hS => by
    have hil : i < s.st.length := by rw [hI.len]; exact hi
    by_cases hm : 32 ≤ s.many
    · simp only [dfs, if_pos hm]
      exact .inl ⟨rfl, by have := hI.cnt; omega⟩
    · have i1 : DInv l ⟨s.st.set i 1, s.many + 1, s.ord⟩ := by
        refine ⟨by simp [hI.len], fun k v hv => ?_, fun k => ?_, hI.nod, hI.ahead, ?_, by simp only; omega⟩
        · simp only [set_get hil] at hv
          split at hv
          · injection hv with hv; omega
          · exact hI.vals k v hv
        · simp only [set_get hil]
          split
          · rename_i hk; subst hk
            constructor
            · intro h; cases h
            · intro h; rw [← hI.two, h0] at h; cases h
          · exact hI.two k
        · have := cntS h0
          have := hI.cnt
          simp only; omega
      have s1 : Stk l ⟨s.st.set i 1, s.many + 1, s.ord⟩ i := fun k hk => by
        simp only [set_get hil] at hk
        split at hk
        · rename_i h; subst h; exact .refl _
        · exact hS k hk
      have w := goL_word (dfs_word l n) (impN l i) _ (fun p hp => hp) i1 (by simp [set_get hil]) (by simp only; omega) s1
      have o1 : ∀ k v, s.st[k]? = some v → k ≠ i → (s.st.set i 1)[k]? = some v := fun k v hv hk => by rw [set_get hil, if_neg hk]; exact hv
      simp only [dfs, if_neg hm]
      cases hr : (goL l (dfs l n) (impN l i) ⟨s.st.set i 1, s.many + 1, s.ord⟩).2 with
      | some e => rw [hr] at w; exact w
      | none =>
        rw [hr] at w
        obtain ⟨i2, v2, f2⟩ := w
        simp only
        generalize (goL l (dfs l n) (impN l i) ⟨s.st.set i 1, s.many + 1, s.ord⟩).1 = s2 at *
        have hi2 : i < s2.st.length := by rw [i2.len]; exact hi
        have k1 : s2.st[i]? = some 1 := v2.old i 1 (by simp [set_get hil]) (by omega)
        have hni : i ∉ s2.ord := fun h => by rw [← i2.two, k1] at h; cases h
        refine ⟨⟨by simp [i2.len], fun k v hv => ?_, fun k => ?_, ?_, fun a k b hab p hp => ?_, ?_, i2.m32⟩, ⟨fun k v hv hv0 => ?_, fun k hk => ?_, ?_, ?_⟩, s2.ord, rfl⟩
        · simp only [set_get hi2] at hv
          split at hv
          · injection hv with hv; omega
          · exact i2.vals k v hv
        · simp only [set_get hi2, List.mem_append, List.mem_singleton]
          split
          · rename_i h; simp [h]
          · rename_i h; simp only [h, or_false]; exact i2.two k
        · exact List.nodup_append.2 ⟨i2.nod, by simp, fun a ha b hb => by
            simp only [List.mem_singleton] at hb; subst hb
            intro h; subst h; exact hni ha⟩
        · rcases List.eq_nil_or_concat b with rfl | ⟨b', x, rfl⟩
          · obtain ⟨rfl, h⟩ := List.append_inj' hab rfl
            injection h with h; subst h
            exact f2 p hp
          · have hx : s2.ord = a ++ k :: b' ∧ [i] = [x] := List.append_inj' (by simpa using hab) rfl
            exact i2.ahead a k b' hx.1 p hp
        · simp only [cntS2 k1]; exact i2.cnt
        · have hk : k ≠ i := fun h => by subst h; rw [h0] at hv; injection hv with hv; omega
          simp only [set_get hi2, if_neg hk]
          exact v2.old k v (o1 k v hv hk) hv0
        · by_cases h : k = i
          · subst h; right; simp [set_get hi2]
          · simp only [set_get hi2, if_neg h]
            exact v2.new k (o1 k 0 hk h)
        · obtain ⟨m, h1, h2⟩ := v2.ord
          refine ⟨m ++ [i], by simp only [h1, List.append_assoc], fun k hk => ?_⟩
          simp only [List.mem_append, List.mem_singleton] at hk
          rcases hk with hk | rfl
          · exact h2 k hk
          · exact .refl _
        · have := v2.many; simp only at this ⊢; omega
theorem inv0 (l : List En) : DInv l (dfs0 l) := by
  refine ⟨by simp [dfs0], fun k v hv => ?_, fun k => ?_, by simp [dfs0], fun a k b hab => by simp [dfs0] at hab, by simp [dfs0, List.count_replicate_self], by simp [dfs0]⟩
  · simp only [dfs0, List.getElem?_replicate] at hv
    split at hv
    · injection hv with hv; omega
    · cases hv
  · simp only [dfs0, List.getElem?_replicate, List.not_mem_nil, iff_false]
    split
    · intro h; cases h
    · intro h; cases h
/-- The root's call. -/
theorem dfs_root {l : List En} {i : Nat} (hi : i < l.length) :
    match (dfs l 33 i (dfs0 l)).2 with
    | some e => Wrong l i e
    | none => DInv l (dfs l 33 i (dfs0 l)).1 ∧ (∀ k, k ∈ (dfs l 33 i (dfs0 l)).1.ord ↔ Rch l i k) ∧ ∃ m, (dfs l 33 i (dfs0 l)).1.ord = m ++ [i] := by
  have w := dfs_word l 33 i (dfs0 l) (inv0 l) hi (by simp [dfs0, hi]) (by simp [dfs0]) (fun k hk => by
    simp only [dfs0, List.getElem?_replicate] at hk
    split at hk <;> cases hk)
  cases hr : (dfs l 33 i (dfs0 l)).2 with
  | some e => rw [hr] at w; exact w
  | none =>
    rw [hr] at w
    obtain ⟨w1, w2, m, w3⟩ := w
    refine ⟨w1, fun k => ⟨fun hk => ?_, fun hk => ?_⟩, m, w3⟩
    · obtain ⟨m', h1, h2⟩ := w2.ord
      simp only [dfs0, List.nil_append] at h1
      exact h2 k (by rw [← h1]; exact hk)
    · refine hk.closed (S := fun k => k ∈ (dfs l 33 i (dfs0 l)).1.ord) (fun x y hx e => ?_) (by rw [w3]; simp)
      obtain ⟨p, hp, hf⟩ := e
      obtain ⟨a, b, hab⟩ := List.append_of_mem hx
      obtain ⟨j, hj, hja⟩ := w1.ahead a x b hab p hp
      rw [hf] at hj; injection hj with hj; subst hj
      rw [hab]; simp [hja]
end Go.Eng
