/-
The relation between the small heap and the model's memory, and what it is worth.
-/
import Derived.Test.YtiflkdemlhpibaaDoorEnhA
import Derived.Laws.Sem
import Derived.Laws.Cells
import Derived.Laws.Entries
import Derived.ChangeKeysEq
import Derived.Laws.World
set_option linter.unusedVariables false
namespace Go.Eng
open Go

/-- Where a block lies: in which block of the model's, from which cell on, and how many elements more have room behind it. -/
structure Pl where
  blk : Nat
  off : Nat
  room : Nat
abbrev Mp := Nat → Option Pl

inductive VRel (m : Mp) : Value → Value → Prop where
  | flat {v : Value} (h : flat1 v = true) : VRel m v v
  | ptr {b o : Nat} {p : Pl} (h : m b = some p) : VRel m (.pointer (some ⟨b, o, none⟩)) (.pointer (some ⟨p.blk, p.off + o, none⟩))
  | slc {b o len cap cap' : Nat} {p : Pl} (h : m b = some p) (h1 : cap ≤ cap') (h2 : cap' ≤ cap + p.room) (h3 : len ≤ cap) :
      VRel m (.slice (some ⟨b, o, none⟩) len cap) (.slice (some ⟨p.blk, p.off + o, none⟩) len cap')
  | slx {b o len cap : Nat} {p : Pl} (h : m b = some p) (h3 : len ≤ cap) :
      VRel m (.slice (some ⟨b, o, some 0⟩) len cap) (.slice (some ⟨p.blk, p.off + o, none⟩) len cap)
  | sl0 {b o : Nat} {sp : Option Nat} {a' : Addr} {p : Pl} (h : m b = some p) : VRel m (.slice (some ⟨b, o, sp⟩) 0 0) (.slice (some a') 0 0)
  | mapv {b : Nat} {p : Pl} (h : m b = some p) : VRel m (.map (some b)) (.map (some p.blk))
  | func {f : FuncId} {a b a' b' : Array Value} (ha : a.toList.length = a'.toList.length) (hb : b.toList.length = b'.toList.length)
      (h1 : ∀ (i : Nat) v v', a.toList[i]? = some v → a'.toList[i]? = some v' → VRel m v v') (h2 : ∀ (i : Nat) v v', b.toList[i]? = some v → b'.toList[i]? = some v' → VRel m v v') :
      VRel m (.func (.func f) a b) (.func (.func f) a' b')
  | agg {a a' : Array Value} (ha : a.toList.length = a'.toList.length) (h1 : ∀ (i : Nat) v v', a.toList[i]? = some v → a'.toList[i]? = some v' → VRel m v v') : VRel m (.agg a) (.agg a')
  | tuple {a a' : Array Value} (ha : a.toList.length = a'.toList.length) (h1 : ∀ (i : Nat) v v', a.toList[i]? = some v → a'.toList[i]? = some v' → VRel m v v') : VRel m (.tuple a) (.tuple a')

def LRel (m : Mp) (l l' : List Value) : Prop := l.length = l'.length ∧ ∀ (i : Nat) v v', l[i]? = some v → l'[i]? = some v' → VRel m v v'

theorem LRel.nil {m : Mp} : LRel m [] [] := ⟨rfl, by simp⟩
theorem LRel.get {m : Mp} {l l' : List Value} (h : LRel m l l') {i : Nat} {v : Value} (hv : l[i]? = some v) : ∃ v', l'[i]? = some v' ∧ VRel m v v' := by
  have hi : i < l.length := by
    rcases Nat.lt_or_ge i l.length with h' | h'
    · exact h'
    · simp [List.getElem?_eq_none h'] at hv
  have hi' : i < l'.length := h.1 ▸ hi
  exact ⟨l'[i], List.getElem?_eq_getElem hi', h.2 i v _ hv (List.getElem?_eq_getElem hi')⟩
theorem LRel.cons {m : Mp} {v v' : Value} {l l' : List Value} (h : VRel m v v') (hl : LRel m l l') : LRel m (v :: l) (v' :: l') :=
  ⟨by simp [hl.1], fun i a a' ha ha' => by
    cases i with
    | zero => simp at ha ha'; subst ha; subst ha'; exact h
    | succ i => simp at ha ha'; exact hl.2 i a a' ha ha'⟩
theorem LRel.head {m : Mp} {v v' : Value} {l l' : List Value} (h : LRel m (v :: l) (v' :: l')) : VRel m v v' := h.2 0 v v' rfl rfl
theorem LRel.tail {m : Mp} {v v' : Value} {l l' : List Value} (h : LRel m (v :: l) (v' :: l')) : LRel m l l' :=
  ⟨by simpa using h.1, fun i a a' ha ha' => h.2 (i + 1) a a' (by simpa using ha) (by simpa using ha')⟩
theorem LRel.cases_cons {m : Mp} {v : Value} {l l' : List Value} (h : LRel m (v :: l) l') : ∃ v' r', l' = v' :: r' ∧ VRel m v v' ∧ LRel m l r' := by
  cases l' with
  | nil => exact absurd h.1 (by simp)
  | cons v' r' => exact ⟨v', r', rfl, h.head, h.tail⟩
theorem LRel.cases_nil {m : Mp} {l' : List Value} (h : LRel m [] l') : l' = [] := by
  cases l' with
  | nil => rfl
  | cons v' r' => exact absurd h.1 (by simp)
theorem LRel.append {m : Mp} {a a' b b' : List Value} (h : LRel m a a') (hb : LRel m b b') : LRel m (a ++ b) (a' ++ b') := by
  induction a generalizing a' with
  | nil => rw [h.cases_nil]; exact hb
  | cons v l ih =>
    obtain ⟨v', r', rfl, h1, h2⟩ := h.cases_cons
    exact LRel.cons h1 (ih h2)
theorem LRel.drop {m : Mp} {a a' : List Value} (h : LRel m a a') (k : Nat) : LRel m (a.drop k) (a'.drop k) :=
  ⟨by simp [h.1], fun i v v' hv hv' => h.2 (k + i) v v' (by simpa using hv) (by simpa using hv')⟩
theorem LRel.take {m : Mp} {a a' : List Value} (h : LRel m a a') (k : Nat) : LRel m (a.take k) (a'.take k) :=
  ⟨by simp [h.1], fun i v v' hv hv' => by
    rw [List.getElem?_take] at hv hv'
    split at hv
    · rename_i hi
      rw [if_pos hi] at hv'
      exact h.2 i v v' hv hv'
    · cases hv⟩
theorem LRel.cut {m : Mp} {a a' : List Value} (h : LRel m a a') (o k : Nat) : LRel m (cut a o k) (cut a' o k) := (h.drop o).take k

theorem VRel.agg' {m : Mp} {a a' : Array Value} (h : LRel m a.toList a'.toList) : VRel m (.agg a) (.agg a') := .agg h.1 h.2
theorem VRel.tuple' {m : Mp} {a a' : Array Value} (h : LRel m a.toList a'.toList) : VRel m (.tuple a) (.tuple a') := .tuple h.1 h.2
theorem VRel.undef {m : Mp} : VRel m undef undef := VRel.tuple' (a := #[]) (a' := #[]) LRel.nil

/-- More is known of where blocks lie. -/
def MLe (m m' : Mp) : Prop := ∀ b p, m b = some p → m' b = some p
theorem MLe.refl (m : Mp) : MLe m m := fun _ _ h => h
theorem MLe.trans {a b c : Mp} (h : MLe a b) (h' : MLe b c) : MLe a c := fun x p hx => h' x p (h x p hx)
theorem VRel.mono {m m' : Mp} (hm : MLe m m') {v v' : Value} (h : VRel m v v') : VRel m' v v' := by
  induction h with
  | flat h => exact .flat h
  | ptr h => exact .ptr (hm _ _ h)
  | slc h h1 h2 h3 => exact .slc (hm _ _ h) h1 h2 h3
  | slx h h3 => exact .slx (hm _ _ h) h3
  | sl0 h => exact .sl0 (hm _ _ h)
  | mapv h => exact .mapv (hm _ _ h)
  | func ha hb h1 h2 ih1 ih2 => exact .func ha hb ih1 ih2
  | agg ha h1 ih => exact .agg ha ih
  | tuple ha h1 ih => exact .tuple ha ih
theorem LRel.mono {m m' : Mp} (hm : MLe m m') {l l' : List Value} (h : LRel m l l') : LRel m' l l' := ⟨h.1, fun i v v' a b => (h.2 i v v' a b).mono hm⟩

theorem VRel.ofFlat {m : Mp} {v : Value} (h : Eng.flat v = true) : VRel m v v := by
  have L : ∀ cs : Array Value, cs.all flat1 = true → LRel m cs.toList cs.toList := fun cs hc => ⟨rfl, fun i a a' ha ha' => by
    rw [ha] at ha'
    obtain rfl := Option.some.inj ha'
    refine .flat ?_
    rw [Array.all_eq_true] at hc
    have hi : i < cs.size := by
      rcases Nat.lt_or_ge i cs.size with h' | h'
      · exact h'
      · simp [h'] at ha
    have := hc i hi
    simp at ha
    rw [Array.getElem?_eq_getElem hi] at ha
    simpa [Option.some.inj ha] using this⟩
  cases v <;> first
    | exact .agg' (L _ (by simpa [Eng.flat] using h))
    | exact .tuple' (L _ (by simpa [Eng.flat] using h))
    | exact .flat (by simpa [Eng.flat] using h)

/-- What is of one shape on one side is so on the other. -/
theorem VRel.eq_of_flat1 {m : Mp} {v v' : Value} (h : VRel m v v') (hf : flat1 v = true) : v' = v := by
  cases h <;> first | rfl | (simp [flat1] at hf; done) | skip
theorem VRel.oneC {m : Mp} {v v' : Value} (h : VRel m v v') : Eng.oneC v' = Eng.oneC v := by
  cases h <;> rfl
theorem VRel.cells {m : Mp} {v v' : Value} (h : VRel m v v') : LRel m v.cells.toList v'.cells.toList := by
  have h0 := h
  cases h with
  | agg ha h1 => exact ⟨ha, h1⟩
  | flat hf => cases v <;> first | (simp [flat1] at hf; done) | exact LRel.cons h0 .nil
  | _ => exact LRel.cons h0 .nil
theorem LRel.allOne {m : Mp} {l l' : List Value} (h : LRel m l l') (ho : l.all Eng.oneC = true) : l'.all Eng.oneC = true := by
  induction l generalizing l' with
  | nil => rw [h.cases_nil]; rfl
  | cons v l ih =>
    obtain ⟨v', r', rfl, h1, h2⟩ := h.cases_cons
    simp only [List.all_cons, Bool.and_eq_true] at ho ⊢
    exact ⟨by rw [h1.oneC]; exact ho.1, ih h2 ho.2⟩
theorem LRel.size {m : Mp} {a b : Array Value} (h : LRel m a.toList b.toList) : b.size = a.size := by simpa using h.1.symm

/-- What is frozen of a block lies behind. -/
def Fz (fr : Nat × Nat) (n : Nat) : Prop := fr.1 = fr.2 ∨ n ≤ fr.1
theorem Fz.not {fr : Nat × Nat} {n o : Nat} (h : Fz fr n) (ho : o < n) : ¬ (fr.1 ≤ o ∧ o < fr.2) := by
  rcases h with h | h <;> omega
theorem Fz.mono {fr : Nat × Nat} {n k : Nat} (h : Fz fr n) (hk : k ≤ n) : Fz fr k := by
  rcases h with h | h
  · exact .inl h
  · exact .inr (by omega)
/-- What is no block of cells, as the model has it. -/
def ObRel (m : Mp) : Ob → Obj → Prop
  | .iter s pos, x => x = .stringIter s pos
  | .map es clock, x => ∃ es' : Array MapEntry, x = .map es' clock ∧ es'.toList.length = es.length ∧ ∀ (i : Nat) e, es[i]? = some e → flat1 e.key = true ∧ ∃ v', es'.toList[i]? = some ⟨e.key, v', e.born⟩ ∧ VRel m e.val v'
theorem ObRel.mono {m m' : Mp} (hm : MLe m m') {o : Ob} {x : Obj} (h : ObRel m o x) : ObRel m' o x := by
  cases o with
  | iter s pos => exact h
  | map es clock =>
    obtain ⟨es', h1, h2, h3⟩ := h
    exact ⟨es', h1, h2, fun i e he => by obtain ⟨k1, v', k2, k3⟩ := h3 i e he; exact ⟨k1, v', k2, k3.mono hm⟩⟩
/-- A block, as the model has it. -/
def Lies (m : Mp) (w : World) (blk : Blk) (p : Pl) : Prop :=
  (blk.plain = true ∧ ∃ cs e fr, w.heap[p.blk]? = some (.cells cs e fr) ∧ p.off + blk.cells.length + p.room * blk.sz ≤ cs.size ∧
    (∀ i v, blk.cells[i]? = some v → ∃ v', cs[p.off + i]? = some v' ∧ VRel m v v') ∧
    (blk.own = true → Fz fr (p.off + blk.cells.length + p.room * blk.sz))) ∨
  ∃ o x, blk = obj o ∧ p.off = 0 ∧ p.room = 0 ∧ w.heap[p.blk]? = some x ∧ ObRel m o x
theorem Lies.plain {m : Mp} {w : World} {blk : Blk} {p : Pl} (h : Lies m w blk p) (hp : blk.plain = true) : ∃ cs e fr, w.heap[p.blk]? = some (.cells cs e fr) ∧ p.off + blk.cells.length + p.room * blk.sz ≤ cs.size ∧
    (∀ i v, blk.cells[i]? = some v → ∃ v', cs[p.off + i]? = some v' ∧ VRel m v v') ∧
    (blk.own = true → Fz fr (p.off + blk.cells.length + p.room * blk.sz)) := by
  rcases h with h | ⟨o, x, rfl, _⟩
  · exact h.2
  · cases hp
theorem Lies.lt {m : Mp} {w : World} {blk : Blk} {p : Pl} (h : Lies m w blk p) : p.blk < w.heap.size := by
  rcases h with ⟨_, cs, e, fr, h, _⟩ | ⟨o, x, _, _, _, h, _⟩ <;> exact (Array.getElem?_eq_some_iff.1 h).1
theorem Lies.mono {m m' : Mp} {w : World} {blk : Blk} {p : Pl} (hm : MLe m m') (h : Lies m w blk p) : Lies m' w blk p := by
  rcases h with ⟨h0, cs, e, fr, h1, h2, h3, h4⟩ | ⟨o, x, h1, h2, h3, h4, h5⟩
  · exact .inl ⟨h0, cs, e, fr, h1, h2, fun i v hv => by obtain ⟨v', q1, q2⟩ := h3 i v hv; exact ⟨v', q1, q2.mono hm⟩, h4⟩
  · exact .inr ⟨o, x, h1, h2, h3, h4, h5.mono hm⟩
theorem Lies.at {m : Mp} {w w' : World} {blk : Blk} {p : Pl} (h : Lies m w blk p) (hw : w'.heap[p.blk]? = w.heap[p.blk]?) : Lies m w' blk p := by
  unfold Lies
  rw [hw]
  exact h
theorem Lies.plain_of {m : Mp} {w : World} {blk : Blk} {p : Pl} {cs : Array Value} {e : TypeId} {fr : Nat × Nat} (h : Lies m w blk p) (hh : w.heap[p.blk]? = some (.cells cs e fr)) : blk.plain = true := by
  rcases h with h | ⟨o, x, rfl, _, _, h4, h5⟩
  · exact h.1
  · rw [hh] at h4
    injection h4 with h4
    subst h4
    cases o with
    | iter s pos => cases h5
    | map es clock => obtain ⟨es', h5, _⟩ := h5; cases h5
theorem Lies.none {m : Mp} {w : World} {blk : Blk} {p : Pl} (h : Lies m w blk p) (hp : blk.plain = false) : blk.cells = [] ∧ blk.sz = 0 ∧ blk.own = true := by
  rcases h with h | ⟨o, x, rfl, _⟩
  · rw [h.1] at hp; cases hp
  · exact ⟨rfl, rfl, rfl⟩
theorem Blk.w_iff {b : Blk} : b.w = true ↔ b.own = true ∧ b.plain = true := by simp [Blk.w, Blk.plain]
theorem Blk.eta' {b : Blk} (h : b.own = true) (hp : b.plain = true) : (⟨b.cells, b.sz, true⟩ : Blk) = b := by
  cases b with
  | @mk c s o ob =>
    cases ob with
    | mk x =>
      simp only [Blk.plain, Option.isNone_iff_eq_none] at hp
      simp only at h
      subst h; subst hp
      rfl
/-- Memory as the small heap has it. -/
structure HRel (m : Mp) (H : Heap) (w : World) : Prop where
  low : ∀ b blk, H.get b = some blk → b < H.n
  blk : ∀ b blk p, H.get b = some blk → m b = some p → Lies m w blk p
  inj : ∀ b b' blk blk' p p', b ≠ b' → H.get b = some blk → blk.own = true → H.get b' = some blk' → m b = some p → m b' = some p' → p.blk ≠ p'.blk
  one : ∀ b blk, H.get b = some blk → blk.cells.all oneC = true
  froz : ∀ b blk p, H.get b = some blk → blk.own = false → m b = some p → p.room = 0

/-- Only what there is is told of. -/
def MLow (m : Mp) (n : Nat) : Prop := ∀ b p, m b = some p → b < n

/-- The model's memory has become another one, as the small heap has. -/
structure Step (m : Mp) (H : Heap) (w : World) (m' : Mp) (H' : Heap) (w' : World) : Prop where
  ext : ∀ b, b < H.n → m' b = m b
  hn : H.n ≤ H'.n
  rel : HRel m' H' w'
  size : w.heap.size ≤ w'.heap.size
  frame : ∀ c, c < w.heap.size → (∀ b blk p, H.get b = some blk → blk.own = true → m b = some p → p.blk ≠ c) → w'.heap[c]? = w.heap[c]?
  own : ∀ b blk p, H'.get b = some blk → blk.own = true → m' b = some p → p.blk < w.heap.size → ∃ b0 blk0 p0, H.get b0 = some blk0 ∧ blk0.own = true ∧ m b0 = some p0 ∧ p0.blk = p.blk
  os : w'.os = w.os
  tape : w'.tape = w.tape
  output : w'.output = w.output
  old : ∀ b blk, b < H.n → H.get b = some blk → blk.own = false → H'.get b = some blk
  back : ∀ b blk, b < H.n → H'.get b = some blk → blk.own = false → H.get b = some blk
  keepLow : MLow m H.n → MLow m' H'.n
  fresh : ∀ b blk, H.n ≤ b → H'.get b = some blk → blk.own = true

theorem Step.refl {m : Mp} {H : Heap} {w : World} (h : HRel m H w) : Step m H w m H w :=
  ⟨fun _ _ => rfl, Nat.le_refl _, h, Nat.le_refl _, fun _ _ _ => rfl, fun b blk p h1 h2 h3 _ => ⟨b, blk, p, h1, h2, h3, rfl⟩, rfl, rfl, rfl, fun _ _ _ h _ => h, fun _ _ _ h _ => h, id, fun b blk h1 h2 => by have := h.low b blk h2; omega⟩
theorem Step.trans {m m1 m2 : Mp} {H H1 H2 : Heap} {w w1 w2 : World} (h : Step m H w m1 H1 w1) (h' : Step m1 H1 w1 m2 H2 w2) : Step m H w m2 H2 w2 where
  ext b hb := by rw [h'.ext b (Nat.lt_of_lt_of_le hb h.hn), h.ext b hb]
  hn := Nat.le_trans h.hn h'.hn
  rel := h'.rel
  size := Nat.le_trans h.size h'.size
  frame c hc hf := by
    rw [h'.frame c (Nat.lt_of_lt_of_le hc h.size) fun b blk p h1 h2 h3 he => by
      obtain ⟨b0, blk0, p0, g1, g2, g3, g4⟩ := h.own b blk p h1 h2 h3 (by rw [he]; exact hc)
      exact hf b0 blk0 p0 g1 g2 g3 (g4.trans he)]
    exact h.frame c hc hf
  own b blk p h1 h2 h3 h4 := by
    obtain ⟨b1, blk1, p1, g1, g2, g3, g4⟩ := h'.own b blk p h1 h2 h3 (Nat.lt_of_lt_of_le h4 h.size)
    obtain ⟨b0, blk0, p0, k1, k2, k3, k4⟩ := h.own b1 blk1 p1 g1 g2 g3 (by rw [g4]; exact h4)
    exact ⟨b0, blk0, p0, k1, k2, k3, k4.trans g4⟩
  os := h'.os.trans h.os
  tape := h'.tape.trans h.tape
  output := h'.output.trans h.output
  old b blk hb h1 h2 := h'.old b blk (Nat.lt_of_lt_of_le hb h.hn) (h.old b blk hb h1 h2) h2
  keepLow h0 := h'.keepLow (h.keepLow h0)
  fresh b blk h1 h2 := by
    rcases Nat.lt_or_ge b H1.n with h3 | h3
    · cases ho : blk.own with
      | true => rfl
      | false =>
        have := h.fresh b blk h1 (h'.back b blk h3 h2 ho)
        rw [ho] at this; cases this
    · exact h'.fresh b blk h3 h2
  back b blk hb h1 h2 := h.back b blk hb (h'.back b blk (Nat.lt_of_lt_of_le hb h.hn) h1 h2) h2
theorem Step.mle {m m' : Mp} {H H' : Heap} {w w' : World} (h : Step m H w m' H' w') (hl : MLow m H.n) : MLe m m' := fun b p hb => by rw [h.ext b (hl b p hb)]; exact hb

end Go.Eng
