/- The files that a root reaches, plainly: in two ways. -/
import Derived.Test.YtiflkdemlhpibaaDoorIP
set_option linter.unusedVariables false
set_option linter.unusedSimpArgs false
namespace Go.Eng

/-! ### lists that rise -/
def Rise (l : List Nat) : Prop := l.Pairwise (· < ·)
theorem rise_ext : ∀ {a b : List Nat}, Rise a → Rise b → (∀ k, k ∈ a ↔ k ∈ b) → a = b
  | [], [], _, _, _ => rfl
  | [], y :: b, _, _, h => by have := (h y).2 (by simp); cases this
  | x :: a, [], _, _, h => by have := (h x).1 (by simp); cases this
  | x :: a, y :: b, ha, hb, h => by
    have ha' := List.pairwise_cons.1 ha
    have hb' := List.pairwise_cons.1 hb
    have hxy : x = y := by
      rcases List.mem_cons.1 ((h x).1 (by simp)) with e | e
      · exact e
      · have h1 := hb'.1 x e
        rcases List.mem_cons.1 ((h y).2 (by simp)) with e2 | e2
        · exact e2.symm
        · have h2 := ha'.1 y e2; omega
    subst hxy
    congr 1
    refine rise_ext ha'.2 hb'.2 fun k => ⟨fun hk => ?_, fun hk => ?_⟩
    · rcases List.mem_cons.1 ((h k).1 (by simp [hk])) with e | e
      · have := ha'.1 k hk; omega
      · exact e
    · rcases List.mem_cons.1 ((h k).2 (by simp [hk])) with e | e
      · have := hb'.1 k hk; omega
      · exact e

/-! ### by a queue -/
def bfs (l : List En) : Nat → List (List UInt8) → List Nat → List Nat
  | 0, _, out => out
  | _ + 1, [], out => out
  | n + 1, p :: left, out => match findN l p with
    | none => bfs l n left out
    | some i => if i ∈ out then bfs l n left out else bfs l n (left ++ impN l i) (out ++ [i])
/-- How many rounds there are left at most. -/
def todo (l : List En) (left : List (List UInt8)) (out : List Nat) : Nat := left.length + (((List.range l.length).filter (fun i => decide (i ∉ out))).map (fun i => (impN l i).length)).sum
theorem filter_less {l out : List Nat} {i : Nat} {f : Nat → Nat} (hn : l.Nodup) (hi : i ∈ l) (ho : i ∉ out) :
    ((l.filter (fun k => decide (k ∉ out ++ [i]))).map f).sum + f i = ((l.filter (fun k => decide (k ∉ out))).map f).sum := by
  induction l with
  | nil => cases hi
  | cons x l ih =>
    have hn' := List.nodup_cons.1 hn
    by_cases hx : x = i
    · subst hx
      have e : l.filter (fun k => decide (k ∉ out ++ [x])) = l.filter (fun k => decide (k ∉ out)) := by
        apply List.filter_congr
        intro k hk
        have : k ≠ x := fun h => hn'.1 (h ▸ hk)
        simp [this]
      rw [List.filter_cons_of_neg (by simp), List.filter_cons_of_pos (by simpa using ho), e]
      simp only [List.map_cons, List.sum_cons]; omega
    · have hi' : i ∈ l := by rcases List.mem_cons.1 hi with h | h; exact absurd h.symm hx; exact h
      have := ih hn'.2 hi'
      by_cases hxo : x ∈ out
      · rw [List.filter_cons_of_neg (by simp [hxo]), List.filter_cons_of_neg (by simp [hxo])]; exact this
      · rw [List.filter_cons_of_pos (by simp [hxo, hx]), List.filter_cons_of_pos (by simp [hxo])]
        simp only [List.map_cons, List.sum_cons]; omega
theorem todo_pop {l : List En} {p : List UInt8} {left : List (List UInt8)} {out : List Nat} : todo l left out + 1 = todo l (p :: left) out := by
  simp only [todo, List.length_cons]; omega
theorem todo_new {l : List En} {p : List UInt8} {left : List (List UInt8)} {out : List Nat} {i : Nat} (hi : i < l.length) (ho : i ∉ out) : todo l (left ++ impN l i) (out ++ [i]) + 1 = todo l (p :: left) out := by
  have := filter_less (l := List.range l.length) (f := fun i => (impN l i).length) List.nodup_range (List.mem_range.2 hi) ho
  simp only [todo, List.length_append, List.length_cons]
  omega
theorem bfs_word (l : List En) (r : Nat) : ∀ (n : Nat) (left : List (List UInt8)) (out : List Nat), todo l left out ≤ n → out.Nodup → (∀ i ∈ out, Rch l r i) → (∀ p ∈ left, ∀ i, findN l p = some i → Rch l r i) →
    (∀ i ∈ out, ∀ p ∈ impN l i, ∀ j, findN l p = some j → j ∈ out ∨ p ∈ left) →
    (bfs l n left out).Nodup ∧ (∀ i ∈ bfs l n left out, Rch l r i) ∧ (∀ i ∈ out, i ∈ bfs l n left out) ∧ (∀ p ∈ left, ∀ i, findN l p = some i → i ∈ bfs l n left out) ∧ (∀ i j, i ∈ bfs l n left out → edge l i j → j ∈ bfs l n left out)
  | 0, left, out, ht, hn, h1, h2, h3 => by
    have : left = [] := by
      cases left with
      | nil => rfl
      | cons p left => simp only [todo, List.length_cons] at ht; omega
    subst this
    refine ⟨hn, h1, fun i hi => hi, by simp, fun i j hi ⟨p, hp, hf⟩ => ?_⟩
    rcases h3 i hi p hp j hf with h | h
    · exact h
    · cases h
  | n + 1, [], out, ht, hn, h1, h2, h3 => by
    refine ⟨hn, h1, fun i hi => hi, by simp, fun i j hi ⟨p, hp, hf⟩ => ?_⟩
    rcases h3 i hi p hp j hf with h | h
    · exact h
    · cases h
  | n + 1, p :: left, out, ht, hn, h1, h2, h3 => by
    simp only [bfs]
    cases hf : findN l p with
    | none =>
      obtain ⟨a, b, c, d, e⟩ := bfs_word l r n left out (by have := todo_pop (l := l) (p := p) (left := left) (out := out); omega) hn h1 (fun q hq => h2 q (by simp [hq])) (fun i hi q hq j hj => by
        rcases h3 i hi q hq j hj with h | h
        · exact .inl h
        · rcases List.mem_cons.1 h with rfl | h
          · rw [hf] at hj; cases hj
          · exact .inr h)
      refine ⟨a, b, c, fun q hq i hi => ?_, e⟩
      rcases List.mem_cons.1 hq with rfl | hq
      · rw [hf] at hi; cases hi
      · exact d q hq i hi
    | some i =>
      have hi := find_lt hf
      simp only
      by_cases ho : i ∈ out
      · rw [if_pos ho]
        obtain ⟨a, b, c, d, e⟩ := bfs_word l r n left out (by have := todo_pop (l := l) (p := p) (left := left) (out := out); omega) hn h1 (fun q hq => h2 q (by simp [hq])) (fun x hx q hq j hj => by
          rcases h3 x hx q hq j hj with h | h
          · exact .inl h
          · rcases List.mem_cons.1 h with rfl | h
            · rw [hf] at hj; injection hj with hj; subst hj; exact .inl ho
            · exact .inr h)
        refine ⟨a, b, c, fun q hq x hx => ?_, e⟩
        rcases List.mem_cons.1 hq with rfl | hq
        · rw [hf] at hx; injection hx with hx; subst hx; exact c i ho
        · exact d q hq x hx
      · rw [if_neg ho]
        have hr := h2 p (by simp) i hf
        obtain ⟨a, b, c, d, e⟩ := bfs_word l r n (left ++ impN l i) (out ++ [i]) (by have := todo_new (l := l) (p := p) (left := left) (out := out) hi ho; omega)
          (List.nodup_append.2 ⟨hn, by simp, fun x hx y hy => by simp only [List.mem_singleton] at hy; subst hy; intro h; subst h; exact ho hx⟩)
          (fun x hx => by
            simp only [List.mem_append, List.mem_singleton] at hx
            rcases hx with hx | rfl
            · exact h1 x hx
            · exact hr)
          (fun q hq x hx => by
            rcases List.mem_append.1 hq with hq | hq
            · exact h2 q (by simp [hq]) x hx
            · exact hr.snoc ⟨q, hq, hx⟩)
          (fun x hx q hq j hj => by
            simp only [List.mem_append, List.mem_singleton] at hx ⊢
            rcases hx with hx | rfl
            · rcases h3 x hx q hq j hj with h | h
              · exact .inl (.inl h)
              · rcases List.mem_cons.1 h with rfl | h
                · rw [hf] at hj; injection hj with hj; subst hj; exact .inl (.inr rfl)
                · exact .inr (.inl h)
            · exact .inr (.inr hq))
        refine ⟨a, b, fun x hx => c x (by simp [hx]), fun q hq x hx => ?_, e⟩
        rcases List.mem_cons.1 hq with rfl | hq
        · rw [hf] at hx; injection hx with hx; subst hx; exact c i (by simp)
        · exact d q (by simp [hq]) x hx
/-- What the queue finds is what is reached. -/
theorem bfs_root {l : List En} {root : List UInt8} {n : Nat} (hn : todo l [root] [] ≤ n) : (bfs l n [root] []).Nodup ∧ ∀ k, k ∈ bfs l n [root] [] ↔ ∃ i, findN l root = some i ∧ Rch l i k := by
  cases hf : findN l root with
  | none =>
    obtain ⟨n, rfl⟩ : ∃ m, n = m + 1 := ⟨n - 1, by simp only [todo, List.length_cons] at hn; omega⟩
    have : bfs l (n + 1) [root] [] = [] := by simp only [bfs, hf]; cases n <;> rfl
    rw [this]
    simp
  | some i =>
    obtain ⟨a, b, c, d, e⟩ := bfs_word l i n [root] [] hn (by simp) (by simp) (fun p hp j hj => by
      simp only [List.mem_singleton] at hp; subst hp; rw [hf] at hj; injection hj with hj; subst hj; exact .refl _) (by simp)
    refine ⟨a, fun k => ⟨fun hk => ⟨i, rfl, b k hk⟩, ?_⟩⟩
    rintro ⟨j, hj, hk⟩
    injection hj with hj; subst hj
    exact hk.closed (S := fun k => k ∈ bfs l n [root] []) e (d root (by simp) i hf)

/-! ### by rounds -/
def rndJ (l : List En) (k : Nat) (p : List UInt8) (v : List Bool) : List Bool := if v[k]? = some true then (match findN l p with | some t => v.set t true | none => v) else v
def rndK (l : List En) (k : Nat) (v : List Bool) : List Bool := (impN l k).foldl (fun v p => rndJ l k p v) v
def rndN (l : List En) (v : List Bool) : List Bool := (List.range l.length).foldl (fun v k => rndK l k v) v
def rndF (l : List En) : Nat → List Bool → List Bool
  | 0, v => v
  | n + 1, v => rndF l n (rndN l v)
def tr (v : List Bool) (k : Nat) : Prop := v[k]? = some true
theorem tr_set {v : List Bool} {t k : Nat} : tr (v.set t true) k ↔ (tr v k ∨ (k = t ∧ t < v.length)) := by
  unfold tr
  rw [List.getElem?_set]
  by_cases h : t = k
  · subst h
    simp only [if_true, true_and]
    by_cases hl : t < v.length
    · simp [hl]
    · simp [hl, List.getElem?_eq_none (by omega : v.length ≤ t)]
  · rw [if_neg h]
    constructor
    · exact .inl
    · rintro (h1 | ⟨h1, _⟩)
      · exact h1
      · exact absurd h1.symm h
structure Rn (l : List En) (v w : List Bool) : Prop where
  len : w.length = v.length
  le : ∀ k, tr v k → tr w k
  sound : ∀ k, tr w k → tr v k ∨ ∃ i, tr w i ∧ edge l i k
theorem rndJ_len (l : List En) (k : Nat) (p : List UInt8) (v : List Bool) : (rndJ l k p v).length = v.length := by
  unfold rndJ; split
  · split <;> simp
  · rfl
theorem rndJ_le (l : List En) (k : Nat) (p : List UInt8) (v : List Bool) : ∀ i, tr v i → tr (rndJ l k p v) i := fun i hi => by
  unfold rndJ; split
  · split
    · exact tr_set.2 (.inl hi)
    · exact hi
  · exact hi
/-- Whatever is closed stays above. -/
theorem rndJ_in {l : List En} {k : Nat} {p : List UInt8} {v : List Bool} {S : Nat → Prop} (hp : p ∈ impN l k) (hS : ∀ i j, S i → edge l i j → S j) (h : ∀ i, tr v i → S i) : ∀ i, tr (rndJ l k p v) i → S i := fun i hi => by
  unfold rndJ at hi
  split at hi
  · rename_i hk
    split at hi
    · rename_i t ht
      rcases tr_set.1 hi with h1 | ⟨rfl, _⟩
      · exact h i h1
      · exact hS k i (h k hk) ⟨p, hp, ht⟩
    · exact h i hi
  · exact h i hi
theorem rndK_word {l : List En} {k : Nat} : ∀ (ps : List (List UInt8)) (v : List Bool), (∀ p ∈ ps, p ∈ impN l k) → v.length = l.length →
    (ps.foldl (fun v p => rndJ l k p v) v).length = l.length ∧ (∀ i, tr v i → tr (ps.foldl (fun v p => rndJ l k p v) v) i) ∧
      (∀ S : Nat → Prop, (∀ i j, S i → edge l i j → S j) → (∀ i, tr v i → S i) → ∀ i, tr (ps.foldl (fun v p => rndJ l k p v) v) i → S i) ∧
      (tr v k → ∀ p ∈ ps, ∀ t, findN l p = some t → tr (ps.foldl (fun v p => rndJ l k p v) v) t)
  | [], v, _, hl => ⟨hl, fun i h => h, fun S _ h => h, by simp⟩
  | p :: ps, v, hp, hl => by
    obtain ⟨a, b, c, d⟩ := rndK_word ps (rndJ l k p v) (fun q hq => hp q (by simp [hq])) (by rw [rndJ_len]; exact hl)
    refine ⟨a, fun i hi => b i (rndJ_le l k p v i hi), fun S hS h => c S hS (rndJ_in (hp p (by simp)) hS h), fun hk q hq t ht => ?_⟩
    rcases List.mem_cons.1 hq with rfl | hq
    · refine b t ?_
      unfold rndJ
      rw [if_pos (show v[k]? = some true from hk), ht]
      exact tr_set.2 (.inr ⟨rfl, by rw [hl]; exact find_lt ht⟩)
    · exact d (rndJ_le l k p v k hk) q hq t ht
theorem rndN_word {l : List En} : ∀ (ks : List Nat) (v : List Bool), v.length = l.length →
    (ks.foldl (fun v k => rndK l k v) v).length = l.length ∧ (∀ i, tr v i → tr (ks.foldl (fun v k => rndK l k v) v) i) ∧
      (∀ S : Nat → Prop, (∀ i j, S i → edge l i j → S j) → (∀ i, tr v i → S i) → ∀ i, tr (ks.foldl (fun v k => rndK l k v) v) i → S i) ∧
      (∀ k ∈ ks, tr v k → ∀ j, edge l k j → tr (ks.foldl (fun v k => rndK l k v) v) j)
  | [], v, hl => ⟨hl, fun i h => h, fun S _ h => h, by simp⟩
  | k :: ks, v, hl => by
    obtain ⟨a1, b1, c1, d1⟩ := rndK_word (l := l) (k := k) (impN l k) v (fun p hp => hp) hl
    obtain ⟨a, b, c, d⟩ := rndN_word ks (rndK l k v) a1
    refine ⟨a, fun i hi => b i (b1 i hi), fun S hS h => c S hS (c1 S hS h), fun x hx hk j hj => ?_⟩
    rcases List.mem_cons.1 hx with rfl | hx
    · obtain ⟨p, hp, ht⟩ := hj
      exact b j (d1 hk p hp j ht)
    · exact d x hx (b1 x hk) j hj
def cnt (v : List Bool) : Nat := v.count true
theorem cnt_le (v : List Bool) : cnt v ≤ v.length := List.count_le_length
theorem cnt_mono : ∀ {v w : List Bool}, v.length = w.length → (∀ k, tr v k → tr w k) → cnt v ≤ cnt w ∧ (cnt v = cnt w → v = w)
  | [], [], _, _ => ⟨Nat.le_refl _, fun _ => rfl⟩
  | [], y :: w, h, _ => by cases h
  | x :: v, [], h, _ => by cases h
  | x :: v, y :: w, hl, h => by
    obtain ⟨h1, h2⟩ := cnt_mono (v := v) (w := w) (by simpa using hl) (fun k hk => by have := h (k + 1); unfold tr at *; simpa using this hk)
    have h0 : x = true → y = true := fun hx => by have := h 0; unfold tr at this; simpa [hx] using this
    unfold cnt at *
    simp only [List.count_cons]
    cases x <;> cases y
    · simp; exact ⟨h1, h2⟩
    · simp; omega
    · simp at h0
    · simp; exact ⟨h1, h2⟩
/-- After so many rounds nothing changes any more, or there are so many more. -/
theorem rndF_word {l : List En} : ∀ (n : Nat) (v : List Bool), v.length = l.length →
    (rndF l n v).length = l.length ∧ (∀ i, tr v i → tr (rndF l n v) i) ∧ (∀ S : Nat → Prop, (∀ i j, S i → edge l i j → S j) → (∀ i, tr v i → S i) → ∀ i, tr (rndF l n v) i → S i) ∧
      (rndN l (rndF l n v) = rndF l n v ∨ cnt v + n ≤ cnt (rndF l n v))
  | 0, v, hl => ⟨hl, fun i h => h, fun S _ h => h, .inr (Nat.le_refl _)⟩
  | n + 1, v, hl => by
    obtain ⟨a1, b1, c1, d1⟩ := rndN_word (l := l) (List.range l.length) v hl
    have a1 : (rndN l v).length = l.length := a1
    obtain ⟨a, b, c, d⟩ := rndF_word n (rndN l v) a1
    refine ⟨a, fun i hi => b i (b1 i hi), fun S hS h => c S hS (c1 S hS h), ?_⟩
    rcases d with d | d
    · exact .inl d
    · obtain ⟨m1, m2⟩ := cnt_mono (v := v) (w := rndN l v) (by rw [hl, a1]) b1
      by_cases he : cnt v = cnt (rndN l v)
      · left
        have e := m2 he
        have : ∀ n, rndF l n (rndN l v) = v := fun n => by
          induction n with
          | zero => exact e.symm
          | succ n ih => simp only [rndF]; rw [← e, ← e]; rw [← e] at ih; exact ih
        show rndN l (rndF l n (rndN l v)) = rndF l n (rndN l v)
        rw [this, ← e]
      · right
        show cnt v + (n + 1) ≤ cnt (rndF l n (rndN l v))
        omega
def start (l : List En) (root : List UInt8) : List Bool := match findN l root with | some i => (List.replicate l.length false).set i true | none => List.replicate l.length false
def picks (v : List Bool) : List Nat := (List.range v.length).filter (fun k => decide (v[k]? = some true))
theorem picks_rise (v : List Bool) : Rise (picks v) := List.Pairwise.filter _ List.pairwise_lt_range
theorem picks_mem {v : List Bool} {k : Nat} : k ∈ picks v ↔ tr v k := by
  unfold picks tr
  simp only [List.mem_filter, List.mem_range, decide_eq_true_eq]
  exact ⟨fun h => h.2, fun h => ⟨(List.getElem?_eq_some_iff.1 h).1, h⟩⟩
/-- What the rounds find is what is reached. -/
theorem rnd_root (l : List En) (root : List UInt8) : ∀ k, k ∈ picks (rndF l l.length (start l root)) ↔ ∃ i, findN l root = some i ∧ Rch l i k := by
  have hl : (start l root).length = l.length := by unfold start; split <;> simp
  obtain ⟨a, b, c, d⟩ := rndF_word (l := l) l.length (start l root) hl
  intro k
  rw [picks_mem]
  have no : ∀ j, ¬ tr (List.replicate l.length false) j := fun j h => by
    unfold tr at h; rw [List.getElem?_replicate] at h; split at h <;> cases h
  cases hf : findN l root with
  | none =>
    have h0 : ∀ i, ¬ tr (start l root) i := fun i hi => by unfold start at hi; rw [hf] at hi; exact no i hi
    constructor
    · intro hk; exact (c (fun _ => False) (fun _ _ h _ => h) (fun i hi => h0 i hi) k hk).elim
    · rintro ⟨i, hi, _⟩; cases hi
  | some i =>
    have hi := find_lt hf
    have h1 : ∀ j, tr (start l root) j ↔ j = i := fun j => by
      unfold start; rw [hf]; simp only
      rw [tr_set]
      constructor
      · rintro (h | ⟨h, _⟩)
        · exact (no j h).elim
        · exact h
      · rintro rfl; exact .inr ⟨rfl, by simpa using hi⟩
    constructor
    · intro hk
      exact ⟨i, rfl, c (fun k => Rch l i k) (fun x y hx e => hx.snoc e) (fun j hj => by rw [h1] at hj; subst hj; exact .refl _) k hk⟩
    · rintro ⟨j, hj, hk⟩
      injection hj with hj; subst hj
      -- nothing changes any more
      have fx : rndN l (rndF l l.length (start l root)) = rndF l l.length (start l root) := by
        rcases d with d | d
        · exact d
        · exfalso
          have c1 : 1 ≤ cnt (start l root) := by
            have : (start l root)[i]? = some true := (h1 i).2 rfl
            exact List.count_pos_iff.2 (List.mem_of_getElem? this)
          have := cnt_le (rndF l l.length (start l root))
          omega
      obtain ⟨_, _, _, cl⟩ := rndN_word (l := l) (List.range l.length) (rndF l l.length (start l root)) a
      refine hk.closed (S := fun k => tr (rndF l l.length (start l root)) k) (fun x y hx e => ?_) (b i ((h1 i).2 rfl))
      have hxl : x < l.length := by rw [← a]; exact (List.getElem?_eq_some_iff.1 hx).1
      have := cl x (List.mem_range.2 hxl) hx y e
      have fx' : (List.range l.length).foldl (fun v k => rndK l k v) (rndF l l.length (start l root)) = rndF l l.length (start l root) := fx
      rw [fx'] at this
      exact this
/-- What a root reaches. -/
def reachN (root : List UInt8) (l : List En) : List Nat := picks (rndF l l.length (start l root))
end Go.Eng
