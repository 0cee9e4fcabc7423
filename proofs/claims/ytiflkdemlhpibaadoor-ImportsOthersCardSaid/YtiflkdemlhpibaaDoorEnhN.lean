/- Regions whose order is drawn: each order comes to what the text's order comes to. -/
import Derived.Test.YtiflkdemlhpibaaDoorEnhM
set_option linter.unusedVariables false
namespace Go.Eng
open Go

/-- Only what lies below n is told of. -/
def restr (m : Mp) (n : Nat) : Mp := fun b => if b < n then m b else none
theorem restr_low (m : Mp) (n : Nat) : MLow (restr m n) n := fun b p h => by
  unfold restr at h
  split at h
  · assumption
  · cases h
theorem restr_le (m : Mp) (n : Nat) : MLe (restr m n) m := fun b p h => by
  unfold restr at h
  split at h
  · exact h
  · cases h
theorem restr_mono {m m' : Mp} (hm : MLe m m') {n n' : Nat} (hn : n ≤ n') : MLe (restr m n) (restr m' n') := fun b p h => by
  unfold restr at h ⊢
  split at h
  · rename_i hb; rw [if_pos (by omega)]; exact hm b p h
  · cases h
theorem restr_of_low {m : Mp} {n : Nat} (h : MLow m n) : restr m n = m := by
  funext b
  unfold restr
  split
  · rfl
  · cases hb : m b with
    | none => rfl
    | some p => exact absurd (h b p hb) ‹_›

inductive Loc (n : Nat) : Value → Prop where
  | flat {v : Value} (h : flat1 v = true) : Loc n v
  | ptr {b o : Nat} (h : b < n) : Loc n (.pointer (some ⟨b, o, none⟩))
  | slc {b o len cap : Nat} {sp : Option Nat} (h : b < n) : Loc n (.slice (some ⟨b, o, sp⟩) len cap)
  | mapv {b : Nat} (h : b < n) : Loc n (.map (some b))
  | func {f : FuncId} {a b : Array Value} (h1 : ∀ (i : Nat) v, a.toList[i]? = some v → Loc n v) (h2 : ∀ (i : Nat) v, b.toList[i]? = some v → Loc n v) : Loc n (.func (.func f) a b)
  | agg {a : Array Value} (h1 : ∀ (i : Nat) v, a.toList[i]? = some v → Loc n v) : Loc n (.agg a)
  | tuple {a : Array Value} (h1 : ∀ (i : Nat) v, a.toList[i]? = some v → Loc n v) : Loc n (.tuple a)
theorem Loc.mono {n n' : Nat} (hn : n ≤ n') {v : Value} (h : Loc n v) : Loc n' v := by
  induction h with
  | flat h => exact .flat h
  | ptr h => exact .ptr (by omega)
  | slc h => exact .slc (by omega)
  | mapv h => exact .mapv (by omega)
  | func h1 h2 ih1 ih2 => exact .func ih1 ih2
  | agg h1 ih => exact .agg ih
  | tuple h1 ih => exact .tuple ih
theorem get_both {l l' : List Value} (h : l.length = l'.length) {i : Nat} {v : Value} (hv : l[i]? = some v) : ∃ v', l'[i]? = some v' := by
  have hi : i < l.length := (List.getElem?_eq_some_iff.1 hv).1
  exact ⟨l'[i]'(h ▸ hi), List.getElem?_eq_getElem _⟩
theorem VRel.loc {m : Mp} {n : Nat} (hm : MLow m n) {v v' : Value} (h : VRel m v v') : Loc n v := by
  induction h with
  | flat h => exact .flat h
  | ptr h => exact .ptr (hm _ _ h)
  | slc h h1 h2 h3 => exact .slc (hm _ _ h)
  | slx h h3 => exact .slc (hm _ _ h)
  | sl0 h => exact .slc (hm _ _ h)
  | mapv h => exact .mapv (hm _ _ h)
  | func ha hb h1 h2 ih1 ih2 => exact .func (fun i v hv => by obtain ⟨v', hv'⟩ := get_both ha hv; exact ih1 i v v' hv hv') (fun i v hv => by obtain ⟨v', hv'⟩ := get_both hb hv; exact ih2 i v v' hv hv')
  | agg ha h1 ih => exact .agg fun i v hv => by obtain ⟨v', hv'⟩ := get_both ha hv; exact ih i v v' hv hv'
  | tuple ha h1 ih => exact .tuple fun i v hv => by obtain ⟨v', hv'⟩ := get_both ha hv; exact ih i v v' hv hv'
theorem VRel.restr {m : Mp} {n : Nat} {v v' : Value} (h : VRel m v v') (hl : Loc n v) : VRel (Eng.restr m n) v v' := by
  have e : ∀ {b : Nat} {p : Pl}, b < n → m b = some p → Eng.restr m n b = some p := fun {b p} hb hp => by unfold Eng.restr; rw [if_pos hb]; exact hp
  induction h with
  | flat h => exact .flat h
  | ptr h =>
    cases hl with
    | flat hf => simp [flat1] at hf
    | ptr hb => exact .ptr (e hb h)
  | slc h h1 h2 h3 =>
    cases hl with
    | flat hf => simp [flat1] at hf
    | slc hb => exact .slc (e hb h) h1 h2 h3
  | slx h h3 =>
    cases hl with
    | flat hf => simp [flat1] at hf
    | slc hb => exact .slx (e hb h) h3
  | sl0 h =>
    cases hl with
    | flat hf => simp [flat1] at hf
    | slc hb => exact .sl0 (e hb h)
  | mapv h =>
    cases hl with
    | flat hf => simp [flat1] at hf
    | mapv hb => exact .mapv (e hb h)
  | func ha hb h1 h2 ih1 ih2 =>
    cases hl with
    | flat hf => simp [flat1] at hf
    | func q1 q2 => exact .func ha hb (fun i v v' hv hv' => ih1 i v v' hv hv' (q1 i v hv)) (fun i v v' hv hv' => ih2 i v v' hv hv' (q2 i v hv))
  | agg ha h1 ih =>
    cases hl with
    | flat hf => simp [flat1] at hf
    | agg q1 => exact .agg ha fun i v v' hv hv' => ih i v v' hv hv' (q1 i v hv)
  | tuple ha h1 ih =>
    cases hl with
    | flat hf => simp [flat1] at hf
    | tuple q1 => exact .tuple ha fun i v v' hv hv' => ih i v v' hv hv' (q1 i v hv)

/-- All values that a block holds. -/
def Ob.vals : Ob → List Value
  | .iter _ _ => []
  | .map es _ => es.map (·.val)
def Blk.vals (b : Blk) : List Value := b.cells ++ (b.ob.o.map Ob.vals).getD []
theorem Blk.vals_cells {b : Blk} {j : Nat} {y : Value} (h : b.cells[j]? = some y) : b.vals[j]? = some y := by
  unfold Blk.vals
  rw [List.getElem?_append_left (List.getElem?_eq_some_iff.1 h).1]
  exact h
theorem Blk.vals_plain {b : Blk} (h : b.plain = true) : b.vals = b.cells := by
  simp only [Blk.plain, Option.isNone_iff_eq_none] at h
  simp [Blk.vals, h]
theorem obj_vals {o : Ob} : (obj o).vals = o.vals := rfl
theorem Lies.loc {m : Mp} {n : Nat} {w : World} {blk : Blk} {p : Pl} (hm : MLow m n) (h : Lies m w blk p) (j : Nat) (y : Value) (hy : blk.vals[j]? = some y) : Loc n y := by
  rcases h with ⟨h0, cs, e, fr, _, _, h3, _⟩ | ⟨o, x, rfl, _, _, _, h5⟩
  · rw [Blk.vals_plain h0] at hy
    obtain ⟨v', _, q⟩ := h3 j y hy
    exact q.loc hm
  · rw [obj_vals] at hy
    cases o with
    | iter s pos => simp [Ob.vals] at hy
    | map es clock =>
      have hy' : (es.map (·.val))[j]? = some y := hy
      rw [List.getElem?_map] at hy'
      simp only [Option.map_eq_some_iff] at hy'
      obtain ⟨e, he, rfl⟩ := hy'
      obtain ⟨es', _, _, h⟩ := h5
      obtain ⟨_, v', _, q⟩ := h j e he
      exact q.loc hm
theorem Lies.restr {m : Mp} {n : Nat} {w : World} {blk : Blk} {p : Pl} (h : Lies m w blk p) (hl : ∀ (j : Nat) y, blk.vals[j]? = some y → Loc n y) : Lies (Eng.restr m n) w blk p := by
  rcases h with ⟨h0, cs, e, fr, h1, h2, h3, h4⟩ | ⟨o, x, rfl, h1, h2, h3, h5⟩
  · rw [Blk.vals_plain h0] at hl
    exact .inl ⟨h0, cs, e, fr, h1, h2, fun i v hv => by obtain ⟨v', q1, q2⟩ := h3 i v hv; exact ⟨v', q1, q2.restr (hl i v hv)⟩, h4⟩
  · refine .inr ⟨o, x, rfl, h1, h2, h3, ?_⟩
    cases o with
    | iter s pos => exact h5
    | map es clock =>
      obtain ⟨es', q1, q2, q3⟩ := h5
      refine ⟨es', q1, q2, fun i e he => ?_⟩
      obtain ⟨k1, v', k2, k3⟩ := q3 i e he
      refine ⟨k1, v', k2, k3.restr (hl i e.val ?_)⟩
      rw [obj_vals]
      show (es.map (·.val))[i]? = some e.val
      rw [List.getElem?_map, he]; rfl

/-- A call, a store: beside what it knows of there are blocks that were made ahead of their turn. -/
theorem mergeAct {m m' : Mp} {V H H' : Heap} {w w' : World} (hr : HRel m V w) (agree : ∀ b p, b < H.n → m b = some p → V.get b = H.get b) (gap : ∀ b, H.n ≤ b → b < H'.n → m b = none) (S : Step (Eng.restr m H.n) H w m' H' w') :
    ∃ mm VV, HRel mm VV w' ∧ MLe m mm ∧ MLe m' mm ∧ (∀ b, b < H.n → mm b = m b) ∧ (∀ b, b < H.n ∨ H'.n ≤ b → mm b = m b) ∧ (∀ b, b < H'.n → VV.get b = H'.get b) ∧ (∀ b, H'.n ≤ b → VV.get b = V.get b) ∧ (∀ b, b < H'.n → mm b = m' b) ∧ V.n ≤ VV.n ∧ H'.n ≤ VV.n := by
  have hlow' : MLow m' H'.n := S.keepLow (restr_low _ _)
  have hext : ∀ b, b < H.n → m' b = m b := fun b hb => by rw [S.ext b hb]; unfold Eng.restr; rw [if_pos hb]
  have hnn := S.hn
  have hmm : ∀ b, (if b < H.n then m b else if b < H'.n then m' b else m b) = (if b < H'.n then m' b else m b) := fun b => by
    by_cases h1 : b < H.n
    · rw [if_pos h1, if_pos (by omega), hext b h1]
    · rw [if_neg h1]
  have hle' : MLe m' (fun b => if b < H'.n then m' b else m b) := fun b p hb => by simp only [if_pos (hlow' b p hb)]; exact hb
  have hle : MLe m (fun b => if b < H'.n then m' b else m b) := fun b p hb => by
    by_cases h1 : b < H'.n
    · simp only [if_pos h1]
      by_cases h2 : b < H.n
      · rw [hext b h2]; exact hb
      · rw [gap b (by omega) h1] at hb; cases hb
    · simp only [if_neg h1]; exact hb
  have hown : ∀ b1 k1 p1 b2 k2 p2, H'.get b1 = some k1 → k1.own = true → m' b1 = some p1 → H'.n ≤ b2 → V.get b2 = some k2 → m b2 = some p2 → p1.blk ≠ p2.blk := fun b1 k1 p1 b2 k2 p2 e1 o1 m1 hb2 e2 m2 heq => by
    have hlt : p1.blk < w.heap.size := by rw [heq]; exact (hr.blk b2 k2 p2 e2 m2).lt
    obtain ⟨b0, k0, p0, q1, q2, q3, q4⟩ := S.own b1 k1 p1 e1 o1 m1 hlt
    have hb0 : b0 < H.n := restr_low _ _ b0 p0 q3
    have hm0 := restr_le _ _ b0 p0 q3
    exact hr.inj b0 b2 k0 k2 p0 p2 (by omega) ((agree b0 p0 hb0 hm0).trans q1) q2 e2 hm0 m2 (q4.trans heq)
  refine ⟨fun b => if b < H'.n then m' b else m b, ⟨max V.n H'.n, fun b => if b < H'.n then H'.get b else V.get b⟩, ⟨?_, ?_, ?_, ?_, ?_⟩, hle, hle', ?_, ?_, ?_, ?_, ?_, by simp only; omega, by simp only; omega⟩
  · intro b blk hb
    simp only at hb ⊢
    split at hb
    · omega
    · have := hr.low b blk hb; omega
  · intro b blk p hb hp
    simp only at hb hp
    by_cases h1 : b < H'.n
    · rw [if_pos h1] at hb hp
      exact (S.rel.blk b blk p hb hp).mono hle'
    · rw [if_neg h1] at hb hp
      refine ((hr.blk b blk p hb hp).mono hle).at ?_
      rw [S.frame p.blk (hr.blk b blk p hb hp).lt fun b1 k1 p1 e1 o1 m1 => ?_]
      · have hb1 := restr_low _ _ b1 p1 m1
        have hm1 := restr_le _ _ b1 p1 m1
        exact hr.inj b1 b k1 blk p1 p (by omega) ((agree b1 p1 hb1 hm1).trans e1) o1 hb hm1 hp
  · intro b1 b2 k1 k2 p1 p2 hne e1 o1 e2 m1 m2
    simp only at e1 e2 m1 m2
    by_cases h1 : b1 < H'.n
    · rw [if_pos h1] at e1 m1
      by_cases h2 : b2 < H'.n
      · rw [if_pos h2] at e2 m2
        exact S.rel.inj b1 b2 k1 k2 p1 p2 hne e1 o1 e2 m1 m2
      · rw [if_neg h2] at e2 m2
        exact hown b1 k1 p1 b2 k2 p2 e1 o1 m1 (by omega) e2 m2
    · rw [if_neg h1] at e1 m1
      by_cases h2 : b2 < H'.n
      · rw [if_pos h2] at e2 m2
        cases o2 : k2.own with
        | true => exact Ne.symm (hown b2 k2 p2 b1 k1 p1 e2 o2 m2 (by omega) e1 m1)
        | false =>
          by_cases h3 : b2 < H.n
          · have hH := S.back b2 k2 h3 e2 o2
            rw [hext b2 h3] at m2
            exact hr.inj b1 b2 k1 k2 p1 p2 hne e1 o1 ((agree b2 p2 h3 m2).trans hH) m1 m2
          · have := S.fresh b2 k2 (by omega) e2
            rw [o2] at this; cases this
      · rw [if_neg h2] at e2 m2
        exact hr.inj b1 b2 k1 k2 p1 p2 hne e1 o1 e2 m1 m2
  · intro b blk hb
    simp only at hb
    split at hb
    · exact S.rel.one b blk hb
    · exact hr.one b blk hb
  · intro b blk p hb ho hp
    simp only at hb hp
    by_cases h1 : b < H'.n
    · rw [if_pos h1] at hb hp; exact S.rel.froz b blk p hb ho hp
    · rw [if_neg h1] at hb hp; exact hr.froz b blk p hb ho hp
  · intro b hb; simp only; rw [if_pos (by omega), hext b hb]
  · intro b hb
    simp only
    rcases hb with hb | hb
    · rw [if_pos (by omega), hext b hb]
    · rw [if_neg (by omega)]
  · intro b hb; simp only [if_pos hb]
  · intro b hb; simp only [if_neg (show ¬ b < H'.n by omega)]
  · intro b hb; simp only [if_pos hb]

/-- A block is made ahead of its turn, or behind it. -/
theorem mergeNew {m m' : Mp} {V : Heap} {w w' : World} {l : Nat} {blk : Blk} (hr : HRel m V w) (gap : m l = none) (S : Step (Eng.restr m l) ⟨l, fun _ => none⟩ w m' (Heap.push ⟨l, fun _ => none⟩ blk) w') :
    ∃ mm VV, HRel mm VV w' ∧ MLe m mm ∧ MLe m' mm ∧ (∀ b, b ≠ l → mm b = m b) ∧ VV.get l = some blk ∧ (∀ b, b ≠ l → VV.get b = V.get b) ∧ mm l = m' l ∧ V.n ≤ VV.n ∧ l < VV.n ∧ (∀ c, c < w.heap.size → w'.heap[c]? = w.heap[c]?) ∧ (∀ p, mm l = some p → w.heap.size ≤ p.blk) := by
  have hlow' : MLow m' (l + 1) := S.keepLow (restr_low _ _)
  have hext : ∀ b, b < l → m' b = m b := fun b hb => by rw [S.ext b hb]; unfold Eng.restr; rw [if_pos hb]
  have hfr : ∀ c, c < w.heap.size → w'.heap[c]? = w.heap[c]? := fun c hc => S.frame c hc fun b k p h1 => by cases h1
  have hget : (Heap.push ⟨l, fun _ => none⟩ blk).get l = some blk := by simp [Heap.push]
  have hown : blk.own = true := S.fresh l blk (Nat.le_refl _) hget
  have hbig : ∀ p, m' l = some p → w.heap.size ≤ p.blk := fun p hp => by
    rcases Nat.lt_or_ge p.blk w.heap.size with h1 | h1
    · obtain ⟨b0, k0, p0, q1, _⟩ := S.own l blk p hget hown hp h1
      cases q1
    · exact h1
  have hle' : MLe m' (fun b => if b = l then m' l else m b) := fun b p hb => by
    simp only
    split
    · rename_i he; rw [← he]; exact hb
    · rename_i he
      have := hlow' b p hb
      rw [← hext b (by omega)]; exact hb
  have hle : MLe m (fun b => if b = l then m' l else m b) := fun b p hb => by
    simp only
    split
    · rename_i he; subst he; rw [gap] at hb; cases hb
    · exact hb
  have old : ∀ b k p, b ≠ l → V.get b = some k → m b = some p → p.blk < w.heap.size := fun b k p _ hb hp => by
    exact (hr.blk b k p hb hp).lt
  refine ⟨fun b => if b = l then m' l else m b, ⟨max V.n (l + 1), fun b => if b = l then some blk else V.get b⟩, ⟨?_, ?_, ?_, ?_, ?_⟩, hle, hle', ?_, ?_, ?_, ?_, by simp only; omega, by simp only; omega, hfr, ?_⟩
  · intro b k hb
    simp only at hb ⊢
    split at hb
    · omega
    · have := hr.low b k hb; omega
  · intro b k p hb hp
    simp only at hb hp
    by_cases h1 : b = l
    · subst h1
      rw [if_pos rfl] at hb hp
      injection hb with hb; subst hb
      exact (S.rel.blk b blk p hget hp).mono hle'
    · rw [if_neg h1] at hb hp
      exact ((hr.blk b k p hb hp).mono hle).at (hfr _ (hr.blk b k p hb hp).lt)
  · intro b1 b2 k1 k2 p1 p2 hne e1 o1 e2 m1 m2
    simp only at e1 e2 m1 m2
    by_cases h1 : b1 = l
    · have h2 : b2 ≠ l := by omega
      rw [if_pos h1] at m1
      rw [if_neg h2] at e2 m2
      have := hbig p1 m1
      have := old b2 k2 p2 h2 e2 m2
      omega
    · rw [if_neg h1] at e1 m1
      by_cases h2 : b2 = l
      · rw [if_pos h2] at m2
        have := hbig p2 m2
        have := old b1 k1 p1 h1 e1 m1
        omega
      · rw [if_neg h2] at e2 m2
        exact hr.inj b1 b2 k1 k2 p1 p2 hne e1 o1 e2 m1 m2
  · intro b k hb
    simp only at hb
    split at hb
    · injection hb with hb; subst hb; exact S.rel.one l blk hget
    · exact hr.one b k hb
  · intro b k p hb ho hp
    simp only at hb hp
    by_cases h1 : b = l
    · rw [if_pos h1] at hb; injection hb with hb; subst hb; rw [hown] at ho; cases ho
    · rw [if_neg h1] at hb hp; exact hr.froz b k p hb ho hp
  · intro b hb; simp only [if_neg hb]
  · simp
  · intro b hb; simp only [if_neg hb]
  · simp
  · intro p hp; simp only [if_true] at hp; exact hbig p hp

end Go.Eng
