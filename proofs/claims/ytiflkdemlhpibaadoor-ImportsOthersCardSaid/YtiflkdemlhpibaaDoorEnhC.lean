/- Memory: loads, stores, new blocks. -/
import Derived.Test.YtiflkdemlhpibaaDoorEnhB
set_option linter.unusedVariables false
namespace Go.Eng
open Go

theorem add_plain (g o j : Nat) : (⟨g, o, none⟩ : Addr).add j = ⟨g, o + j, none⟩ := by
  unfold Addr.add; split <;> simp_all

theorem HRel.cell {m : Mp} {H : Heap} {w : World} (h : HRel m H w) {b i : Nat} {blk : Blk} {p : Pl} {v : Value} (hb : H.get b = some blk) (hm : m b = some p)
    (hv : blk.cells[i]? = some v) : ∃ v', w.cell? ⟨p.blk, p.off + i, none⟩ = some v' ∧ VRel m v v' := by
  have hpl : blk.plain = true := by
    cases hq : blk.plain with
    | true => rfl
    | false => rw [((h.blk b blk p hb hm).none hq).1] at hv; cases hv
  obtain ⟨cs, e, fr, hh, _, hc, _⟩ := (h.blk b blk p hb hm).plain hpl
  obtain ⟨v', h1, h2⟩ := hc i v hv
  exact ⟨v', by simp [World.cell?, hh, h1], h2⟩

/-- The cells of a stretch, all at once. -/
theorem HRel.cells {m : Mp} {H : Heap} {w : World} (h : HRel m H w) {b o k : Nat} {blk : Blk} {p : Pl} (hb : H.get b = some blk) (hm : m b = some p)
    (hk : o + k ≤ blk.cells.length) : ∃ l', l'.length = k ∧ LRel m (cut blk.cells o k) l' ∧ ∀ j v, l'[j]? = some v → w.cell? ⟨p.blk, p.off + o + j, none⟩ = some v := by
  by_cases hk0 : k = 0
  · subst hk0
    exact ⟨[], rfl, by simpa [cut] using LRel.nil, by simp⟩
  have hpl : blk.plain = true := by
    cases hq : blk.plain with
    | true => rfl
    | false => rw [((h.blk b blk p hb hm).none hq).1] at hk; simp at hk; omega
  obtain ⟨cs, e, fr, hh, hsz, hc, _⟩ := (h.blk b blk p hb hm).plain hpl
  have hle : p.off + o + k ≤ cs.size := by
    have : p.off + blk.cells.length ≤ cs.size := Nat.le_trans (Nat.le_add_right _ _) hsz
    omega
  refine ⟨cut cs.toList (p.off + o) k, by simp [cut]; omega, ⟨by simp [cut]; omega, ?_⟩, ?_⟩
  · intro i v v' hv hv'
    simp only [cut, List.getElem?_take, List.getElem?_drop] at hv hv'
    split at hv
    · rename_i hi
      rw [if_pos hi] at hv'
      obtain ⟨v2, h1, h2⟩ := hc (o + i) v hv
      have : cs.toList[p.off + o + i]? = some v2 := by rw [← Array.getElem?_toList] at h1; rw [show p.off + o + i = p.off + (o + i) by omega]; exact h1
      rw [this] at hv'
      exact Option.some.inj hv' ▸ h2
    · cases hv
  · intro j v hv
    simp only [cut, List.getElem?_take, List.getElem?_drop] at hv
    split at hv
    · simp only [World.cell?, hh]
      rw [Array.getElem?_toList] at hv
      simpa using hv
    · cases hv

theorem run_cells {P : Program} {w : World} {g o k : Nat} {l : List Value} (hl : l.length = k) (h : ∀ j v, l[j]? = some v → w.cell? ⟨g, o + j, none⟩ = some v) :
    (loadCells ⟨g, o, none⟩ k).run P w = .ok l.toArray w := by
  subst hl
  exact run_loadCells_list w _ l fun j v hj => by rw [add_plain]; exact h j v hj

theorem run_isAgg {P : Program} {t : TypeId} {b : Bool} (h : isAggT P t = some b) (w : World) : (isAgg t).run P w = .ok b w := by
  unfold isAggT at h
  cases hu : P.underlying t with
  | none => simp [hu] at h
  | some d =>
    simp only [hu, Option.map_some, Option.some.injEq] at h
    simp only [isAgg, Sem.run_bind, run_underlying hu, Result.andThen]
    cases d <;> simp_all
theorem run_size {P : Program} {t : TypeId} {k : Nat} (h : szOf P t = some k) (w : World) : (sizeOf t).run P w = .ok k w := by
  unfold szOf at h
  cases hi : P.info? t with
  | none => simp [hi] at h
  | some i => simp [hi] at h; simp [sizeOf, run_typeInfo w hi, h]
theorem zeroOf_inv {P : Program} {t : TypeId} {z : Value} (h : zeroOf P t = some z) : (∃ i, P.info? t = some i ∧ i.zero = some z) ∧ flat z = true := by
  unfold zeroOf at h
  split at h
  · rename_i z' hz
    split at h
    · rename_i hf
      simp only [Option.some.injEq] at h
      subst h
      simp only [Option.bind_eq_some_iff] at hz
      exact ⟨hz, hf⟩
    · cases h
  · cases h
theorem run_zero {P : Program} {t : TypeId} {z : Value} (h : zeroOf P t = some z) (w : World) : (zeroValue t).run P w = .ok z w := by
  obtain ⟨⟨i, hi, hz⟩, _⟩ := zeroOf_inv h
  simp [zeroValue, run_typeInfo w hi, hz]
theorem run_bytes {P : Program} {t : TypeId} {k : Nat} (h : bytesOf P t = some k) (w : World) : ∃ i, (typeInfo t).run P w = .ok i w ∧ i.bytes = k := by
  unfold bytesOf at h
  cases hi : P.info? t with
  | none => simp [hi] at h
  | some i => simp [hi] at h; exact ⟨i, run_typeInfo w hi, h⟩

theorem VRel.ptr_inv {m : Mp} {b o : Nat} {v' : Value} (h : VRel m (.pointer (some ⟨b, o, none⟩)) v') : ∃ p, m b = some p ∧ v' = .pointer (some ⟨p.blk, p.off + o, none⟩) := by
  cases h with
  | flat h => simp [flat1] at h
  | ptr h => exact ⟨_, h, rfl⟩

theorem ldC_sound {P : Program} {m : Mp} {H H' : Heap} {w : World} {a a' v : Value} {t : TypeId} (hr : HRel m H w) (ha : VRel m a a') (h : ldC a H = some (v, H'))
    (ht : isAggT P t = some false) : H' = H ∧ ∃ v', (Instr.loadAt t a').run P w = .ok v' w ∧ VRel m v v' := by
  unfold ldC at h
  split at h
  · rename_i b o
    obtain ⟨p, hp, rfl⟩ := ha.ptr_inv
    split at h
    · rename_i blk hb
      split at h
      · rename_i v0 hv
        simp only [Option.some.injEq, Prod.mk.injEq] at h
        obtain ⟨rfl, rfl⟩ := h
        obtain ⟨v', hc, hv'⟩ := hr.cell hb hp hv
        exact ⟨rfl, v', by simp [Instr.loadAt, Instr.sureAddr, loadVar, run_isAgg ht, hc], hv'⟩
      · cases h
    · cases h
  · cases h
theorem ldA_sound {P : Program} {m : Mp} {H H' : Heap} {w : World} {a a' v : Value} {t : TypeId} {k : Nat} (hr : HRel m H w) (ha : VRel m a a') (h : ldA k a H = some (v, H'))
    (ht : isAggT P t = some true) (hk : szOf P t = some k) : H' = H ∧ ∃ v', (Instr.loadAt t a').run P w = .ok v' w ∧ VRel m v v' := by
  unfold ldA at h
  split at h
  · rename_i b o
    obtain ⟨p, hp, rfl⟩ := ha.ptr_inv
    split at h
    · rename_i blk hb
      split at h
      · rename_i hle
        simp only [Option.some.injEq, Prod.mk.injEq] at h
        obtain ⟨rfl, rfl⟩ := h
        obtain ⟨l', hl, hrel, hc⟩ := hr.cells hb hp hle
        exact ⟨rfl, .agg l'.toArray, by simp [Instr.loadAt, Instr.sureAddr, loadVar, run_isAgg ht, run_size hk, run_cells hl hc], .agg' (by simpa using hrel)⟩
      · cases h
    · cases h
  · cases h

/-! ### stores -/
def spl (cur : Array Value) : Nat → List Value → Array Value
  | _, [] => cur
  | k, v :: vs => spl (cur.setIfInBounds k v) (k + 1) vs
theorem spl_size (vs : List Value) : ∀ (cur : Array Value) (k : Nat), (spl cur k vs).size = cur.size := by
  induction vs with
  | nil => intro cur k; rfl
  | cons v vs ih => intro cur k; simp [spl, ih]
theorem spl_get (vs : List Value) : ∀ (cur : Array Value) (k j : Nat), k + vs.length ≤ cur.size → (spl cur k vs)[j]? = if k ≤ j ∧ j < k + vs.length then vs[j - k]? else cur[j]? := by
  induction vs with
  | nil => intro cur k j _; simp [spl]; omega
  | cons v vs ih =>
    intro cur k j hk
    simp only [List.length_cons] at hk ⊢
    rw [spl, ih _ _ _ (by simp; omega)]
    by_cases h1 : j = k
    · subst h1
      rw [if_neg (by omega), if_pos (by omega)]
      have : j < cur.size := by omega
      simp [this]
    · by_cases h2 : k + 1 ≤ j ∧ j < k + 1 + vs.length
      · rw [if_pos h2, if_pos (by omega), show j - k = (j - (k + 1)) + 1 by omega]; simp
      · rw [if_neg h2, if_neg (by omega)]
        simp [Array.getElem?_setIfInBounds_ne (Ne.symm h1)]

def wput (w : World) (g : Nat) (cs : Array Value) (e : TypeId) (fr : Nat × Nat) : World := { w with heap := w.heap.setIfInBounds g (.cells cs e fr) }
theorem setCell_wput {w : World} {g o : Nat} {cs : Array Value} {e : TypeId} {fr : Nat × Nat} {v : Value} (h : w.heap[g]? = some (.cells cs e fr)) :
    w.setCell ⟨g, o, none⟩ v = wput w g (cs.setIfInBounds o v) e fr := by
  simp only [World.setCell, wput]
  congr 1
  apply Array.ext_getElem?
  intro i
  rw [Array.getElem?_modify, Array.getElem?_setIfInBounds]
  have hg : g < w.heap.size := (Array.getElem?_eq_some_iff.1 h).1
  have h' := Array.getElem?_eq_some_iff.1 h
  by_cases hi : g = i
  · subst hi; simp [hg, h'.2]
  · simp [hi]
theorem wput_heap {w : World} {g : Nat} {cs : Array Value} {e : TypeId} {fr : Nat × Nat} (h : g < w.heap.size) (i : Nat) : (wput w g cs e fr).heap[i]? = if g = i then some (.cells cs e fr) else w.heap[i]? := by
  simp only [wput, Array.getElem?_setIfInBounds]
  by_cases hi : g = i
  · subst hi; simp [h]
  · simp [hi]
theorem wput_self {w : World} {g : Nat} {cs : Array Value} {e : TypeId} {fr : Nat × Nat} (h : w.heap[g]? = some (.cells cs e fr)) : wput w g cs e fr = w := by
  simp only [wput]
  congr 1
  apply Array.ext_getElem?
  intro i
  have hg : g < w.heap.size := (Array.getElem?_eq_some_iff.1 h).1
  rw [Array.getElem?_setIfInBounds]
  have h' := Array.getElem?_eq_some_iff.1 h
  by_cases hi : g = i
  · subst hi; simp [hg, h'.2]
  · simp [hi]
theorem wput_wput {w : World} {g : Nat} {cs cs' : Array Value} {e e' : TypeId} {fr fr' : Nat × Nat} : wput (wput w g cs e fr) g cs' e' fr' = wput w g cs' e' fr' := by
  simp only [wput]
  congr 1
  simp

theorem run_storeCells_spl {P : Program} {g o : Nat} {e : TypeId} {fr : Nat × Nat} : ∀ (vs : List Value) (i : Nat) (cur : Array Value) (w : World), w.heap[g]? = some (.cells cur e fr) →
    o + i + vs.length ≤ cur.size → (∀ j, o + i ≤ j → j < o + i + vs.length → ¬ (fr.1 ≤ j ∧ j < fr.2)) → vs.all Eng.oneC = true →
    (storeCells ⟨g, o, none⟩ vs i).run P w = .ok () (wput w g (spl cur (o + i) vs) e fr)
  | [], i, cur, w, h, _, _, _ => by simp [storeCells, spl, wput_self h]
  | v :: vs, i, cur, w, h, hs, hf, ho => by
    simp only [List.length_cons, List.all_cons, Bool.and_eq_true] at hs hf ho
    have hg : g < w.heap.size := (Array.getElem?_eq_some_iff.1 h).1
    have hc : w.cell? ⟨g, o + i, none⟩ = some (cur[o + i]'(by omega)) := by
      simp only [World.cell?, h]
      simp [show o + i < cur.size by omega]
    have hz : w.frozen? ⟨g, o + i, none⟩ = false := by
      obtain ⟨lo, hi⟩ := fr
      simp only [World.frozen?, h]
      have := hf (o + i) (by omega) (by omega)
      simpa using this
    have hst : (store ((⟨g, o, none⟩ : Addr).add i) v).run P w = .ok () (wput w g (cur.setIfInBounds (o + i) v) e fr) := by
      rw [add_plain, run_store P w _ v _ ho.1, hc]
      simp only [hz, Bool.false_eq_true, if_false, setCell_wput h]
    have ih := run_storeCells_spl (P := P) (g := g) (o := o) (e := e) (fr := fr) vs (i + 1) (cur.setIfInBounds (o + i) v) (wput w g (cur.setIfInBounds (o + i) v) e fr)
      (by rw [wput_heap hg]; simp) (by simp; omega) (fun j h1 h2 => hf j (by omega) (by omega)) ho.2
    simp only [storeCells, Sem.run_bind, hst, Result.andThen, ih, wput_wput, spl]
    rfl

theorem splice_length {l vs : List Value} {o : Nat} (h : o + vs.length ≤ l.length) : (splice l o vs).length = l.length := by simp [splice]; omega
theorem splice_get {l vs : List Value} {o : Nat} (h : o + vs.length ≤ l.length) (j : Nat) : (splice l o vs)[j]? = if o ≤ j ∧ j < o + vs.length then vs[j - o]? else l[j]? := by
  unfold splice
  have ht : (l.take o).length = o := by simp; omega
  by_cases h1 : j < o
  · rw [if_neg (by omega), List.append_assoc, List.getElem?_append_left (by omega), List.getElem?_take, if_pos h1]
  · rw [List.append_assoc, List.getElem?_append_right (by omega), ht]
    by_cases h2 : j < o + vs.length
    · rw [if_pos (by omega), List.getElem?_append_left (by omega)]
    · rw [if_neg (by omega), List.getElem?_append_right (by omega), List.getElem?_drop]
      congr 1; omega
theorem splice_all {l vs : List Value} {o : Nat} {f : Value → Bool} (h : l.all f = true) (h' : vs.all f = true) : (splice l o vs).all f = true := by
  simp only [splice, List.all_append, Bool.and_eq_true]
  rw [List.all_eq_true] at h
  refine ⟨⟨?_, h'⟩, ?_⟩
  · rw [List.all_eq_true]; exact fun x hx => h x (List.mem_of_mem_take hx)
  · rw [List.all_eq_true]; exact fun x hx => h x (List.mem_of_mem_drop hx)

/-- A stretch of a block of one's own is written. -/
theorem Step.write {m : Mp} {H : Heap} {w : World} (hr : HRel m H w) {b o : Nat} {blk : Blk} {p : Pl} {cs : Array Value} {e : TypeId} {fr : Nat × Nat} {vs vs' : List Value}
    (hb : H.get b = some blk) (ho : blk.own = true) (hm : m b = some p) (hh : w.heap[p.blk]? = some (.cells cs e fr)) (hl : o + vs.length ≤ blk.cells.length) (hv : LRel m vs vs')
    (h1 : vs.all Eng.oneC = true) : Step m H w m (H.upd b (some ⟨splice blk.cells o vs, blk.sz, true⟩)) (wput w p.blk (spl cs (p.off + o) vs') e fr) := by
  obtain ⟨cs0, e0, fr0, hh0, hsz, hc, hf⟩ := (hr.blk b blk p hb hm).plain ((hr.blk b blk p hb hm).plain_of hh)
  rw [hh] at hh0
  injection hh0 with hh0
  injection hh0 with q1 q2 q3
  subst q1; subst q2; subst q3
  have hg : p.blk < w.heap.size := (Array.getElem?_eq_some_iff.1 hh).1
  have hvl : vs'.length = vs.length := hv.1.symm
  refine ⟨fun _ _ => rfl, Nat.le_refl _, ⟨?_, ?_, ?_, ?_, ?_⟩, by simp [wput], ?_, ?_, rfl, rfl, rfl, ?_, ?_, id, ?_⟩
  · intro b' blk' hb'
    simp only [Heap.upd] at hb' ⊢
    split at hb'
    · rename_i he; subst he; exact hr.low _ _ hb
    · exact hr.low _ _ hb'
  · intro b' blk' p' hb' hm'
    simp only [Heap.upd] at hb'
    split at hb'
    · rename_i he
      subst he
      rw [hm] at hm'
      injection hm' with hm'; subst hm'
      injection hb' with hb'; subst hb'
      refine .inl ⟨rfl, spl cs (p.off + o) vs', e, fr, by rw [wput_heap hg, if_pos rfl], by simp only [spl_size, splice_length hl]; exact hsz, ?_, ?_⟩
      · intro i v hi
        simp only [splice_get hl] at hi
        rw [spl_get _ _ _ _ (by have := Nat.le_trans (Nat.le_add_right _ _) hsz; omega)]
        split at hi
        · rename_i hin
          rw [if_pos (by omega), show p.off + i - (p.off + o) = i - o by omega]
          exact hv.get hi
        · rename_i hin
          rw [if_neg (by omega)]
          exact hc i v hi
      · intro _; simp only [splice_length hl]; exact hf ho
    · rename_i hne
      have : p.blk ≠ p'.blk := hr.inj b b' blk blk' p p' (Ne.symm hne) hb ho hb' hm hm'
      exact (hr.blk b' blk' p' hb' hm').at (by rw [wput_heap hg, if_neg this])
  · intro b1 b2 k1 k2 p1 p2 hne e1 o1 e2 m1 m2
    simp only [Heap.upd] at e1 e2
    have f1 : ∃ k, H.get b1 = some k ∧ k.own = true := by
      split at e1
      · rename_i he; subst he; exact ⟨blk, hb, ho⟩
      · exact ⟨k1, e1, o1⟩
    have f2 : ∃ k, H.get b2 = some k := by
      split at e2
      · rename_i he; subst he; exact ⟨blk, hb⟩
      · exact ⟨k2, e2⟩
    obtain ⟨j1, f1, f1'⟩ := f1
    obtain ⟨j2, f2⟩ := f2
    exact hr.inj b1 b2 j1 j2 p1 p2 hne f1 f1' f2 m1 m2
  · intro b' blk' hb'
    simp only [Heap.upd] at hb'
    split at hb'
    · injection hb' with hb'; subst hb'
      exact splice_all (hr.one b blk hb) h1
    · exact hr.one b' blk' hb'
  · intro b' blk' p' hb' ho'
    simp only [Heap.upd] at hb'
    split at hb'
    · injection hb' with hb'; subst hb'; cases ho'
    · exact hr.froz b' blk' p' hb' ho'
  · intro c hc hn
    rw [wput_heap hg, if_neg (hn b blk p hb ho hm)]
  · intro b' blk' p' hb' ho' hm' hlt
    simp only [Heap.upd] at hb'
    split at hb'
    · rename_i he; subst he; exact ⟨b', blk, p', hb, ho, hm', rfl⟩
    · exact ⟨b', blk', p', hb', ho', hm', rfl⟩
  · intro b' blk' hlt hb' ho'
    simp only [Heap.upd]
    rw [if_neg (fun he => by subst he; rw [hb] at hb'; injection hb' with hb'; subst hb'; rw [ho] at ho'; cases ho')]
    exact hb'
  · intro b' blk' hlt hb' ho'
    simp only [Heap.upd] at hb'
    split at hb'
    · injection hb' with hb'; subst hb'; cases ho'
    · exact hb'
  · intro b' blk' h1 hb'
    simp only [Heap.upd] at hb'
    split at hb'
    · injection hb' with hb'; subst hb'; rfl
    · have := hr.low _ _ hb'; omega

theorem stV_sound {P : Program} {m : Mp} {H H' : Heap} {w : World} {a a' x x' v : Value} {t : TypeId} {k : Nat} (hr : HRel m H w) (ha : VRel m a a') (hx : VRel m x x')
    (hk : szOf P t = some k) (h : stV k a x H = some (v, H')) : v = undef ∧ ∃ w', (Instr.storeAt t a' x').run P w = .ok () w' ∧ Step m H w m H' w' := by
  unfold stV at h
  split at h
  · rename_i b o
    obtain ⟨p, hp, rfl⟩ := ha.ptr_inv
    split at h
    · rename_i blk hb
      split at h
      · rename_i hcond
        obtain ⟨c1, c2, c3, c4⟩ := hcond
        obtain ⟨c4, c5⟩ := Blk.w_iff.1 c4
        simp only [Option.some.injEq, Prod.mk.injEq] at h
        obtain ⟨rfl, rfl⟩ := h
        obtain ⟨cs, e, fr, hh, hsz, hc, hf⟩ := (hr.blk b blk p hb hp).plain c5
        have hcl := hx.cells
        have hlen : x.cells.toList.length = k := by simpa using c1
        have hlen' : x'.cells.toList.length = k := by rw [← hcl.1]; exact hlen
        have hst := run_storeCells_spl (P := P) (g := p.blk) (o := p.off + o) (e := e) (fr := fr) x'.cells.toList 0 cs w hh
          (by have := Nat.le_trans (Nat.le_add_right _ _) hsz; omega) (fun j h1 h2 => (hf c4).not (by have := Nat.zero_le (p.room * blk.sz); omega)) (hcl.allOne c2)
        refine ⟨rfl, _, ?_, Step.write hr hb c4 hp hh (by omega) hcl c2⟩
        have hne : ¬ (x'.cells.size ≠ k) := by simpa using hlen'
        simp only [Instr.storeAt, Instr.sureAddr, storeVar, Sem.run_bind, Sem.run_pure, Result.andThen, run_size hk, hne, if_false]
        simpa using hst
      · cases h
    · cases h
  · cases h

/-! ### new blocks -/
def mput (m : Mp) (b : Nat) (p : Pl) : Mp := fun i => if i = b then some p else m i
theorem mput_le {m : Mp} {n : Nat} (h : MLow m n) (p : Pl) : MLe m (mput m n p) := fun b q hb => by
  have := h b q hb
  simp only [mput]
  rw [if_neg (by omega)]
  exact hb
theorem Step.new {m : Mp} {H : Heap} {w w1 : World} (hr : HRel m H w) (hl : MLow m H.n) {l l' : List Value} {cs : Array Value} {e : TypeId} {fr : Nat × Nat} {sz room : Nat}
    (hv : LRel m l l') (h1 : l.all Eng.oneC = true) (hs : l.length + room * sz ≤ cs.size) (hc : ∀ (i : Nat) (v : Value), l'[i]? = some v → cs[i]? = some v) (hf : Fz fr (l.length + room * sz))
    (hw : w1.heap = w.heap.push (.cells cs e fr)) (hos : w1.os = w.os) (ht : w1.tape = w.tape) (hout : w1.output = w.output) :
    Step m H w (mput m H.n ⟨w.heap.size, 0, room⟩) (H.push ⟨l, sz, true⟩) w1 := by
  have hle := mput_le hl ⟨w.heap.size, 0, room⟩
  have hold : ∀ i, i < w.heap.size → w1.heap[i]? = w.heap[i]? := fun i hi => by rw [hw, Array.getElem?_push]; simp [Nat.ne_of_lt hi]
  have hnew : w1.heap[w.heap.size]? = some (.cells cs e fr) := by rw [hw]; simp
  have hmb : ∀ b q blk, H.get b = some blk → mput m H.n ⟨w.heap.size, 0, room⟩ b = some q → m b = some q := fun b q blk hb hq => by
    have := hr.low b blk hb
    simp only [mput] at hq
    rwa [if_neg (by omega)] at hq
  have hblt : ∀ b q blk, H.get b = some blk → m b = some q → q.blk < w.heap.size := fun b q blk hb hq => by
    exact (hr.blk b blk q hb hq).lt
  refine ⟨?_, by simp [Heap.push], ⟨?_, ?_, ?_, ?_, ?_⟩, by rw [hw]; simp, fun c hc _ => hold c hc, ?_, hos, ht, hout, ?_, ?_, ?_, ?_⟩
  · intro b hb; simp only [mput]; rw [if_neg (by omega)]
  · intro b blk hb
    simp only [Heap.push] at hb ⊢
    split at hb
    · omega
    · have := hr.low _ _ hb; omega
  · intro b blk p hb hp
    simp only [Heap.push] at hb
    split at hb
    · rename_i he
      subst he
      injection hb with hb; subst hb
      simp only [mput, if_true] at hp
      injection hp with hp; subst hp
      refine .inl ⟨rfl, cs, e, fr, hnew, by simpa using hs, ?_, ?_⟩
      · intro i v hi
        obtain ⟨v', g1, g2⟩ := hv.get hi
        exact ⟨v', by simpa using hc i v' g1, g2.mono hle⟩
      · intro _; exact hf.mono (by simp)
    · exact ((hr.blk b blk p hb (hmb b p blk hb hp)).mono hle).at (hold _ (hblt b p blk hb (hmb b p blk hb hp)))
  · intro b1 b2 k1 k2 p1 p2 hne e1 o1 e2 m1 m2
    simp only [Heap.push] at e1 e2
    split at e1
    · rename_i he
      subst he
      split at e2
      · rename_i he2; exact absurd he2.symm hne
      · have h2 := hblt _ _ _ e2 (hmb _ _ _ e2 m2)
        simp only [mput, if_true] at m1
        injection m1 with m1; subst m1
        simp only; omega
    · split at e2
      · rename_i he2
        subst he2
        have h1 := hblt _ _ _ e1 (hmb _ _ _ e1 m1)
        simp only [mput, if_true] at m2
        injection m2 with m2; subst m2
        simp only; omega
      · exact hr.inj b1 b2 k1 k2 p1 p2 hne e1 o1 e2 (hmb _ _ _ e1 m1) (hmb _ _ _ e2 m2)
  · intro b blk hb
    simp only [Heap.push] at hb
    split at hb
    · injection hb with hb; subst hb; exact h1
    · exact hr.one b blk hb
  · intro b blk p hb ho hp
    simp only [Heap.push] at hb
    split at hb
    · injection hb with hb; subst hb; cases ho
    · exact hr.froz b blk p hb ho (hmb b p blk hb hp)
  · intro b blk p hb ho hp hlt
    simp only [Heap.push] at hb
    split at hb
    · rename_i he
      subst he
      simp only [mput, if_true] at hp
      injection hp with hp; subst hp
      simp at hlt
    · exact ⟨b, blk, p, hb, ho, hmb b p blk hb hp, rfl⟩
  · intro b blk hlt hb _
    simp only [Heap.push]; rw [if_neg (by omega)]; exact hb
  · intro b blk hlt hb _
    simp only [Heap.push] at hb; rw [if_neg (by omega)] at hb; exact hb
  · intro _ b p hp
    simp only [mput] at hp
    simp only [Heap.push]
    split at hp
    · omega
    · have := hl b p hp; omega
  · intro b blk h1 hb
    simp only [Heap.push] at hb
    split at hb
    · injection hb with hb; subst hb; rfl
    · have := hr.low _ _ hb; omega

theorem newV_sound {P : Program} {m : Mp} {H H' : Heap} {w : World} {cs cs' : List Value} {v : Value} {t : TypeId} (hr : HRel m H w) (hl : MLow m H.n) (hv : LRel m cs cs') (h : newV cs H = some (v, H')) :
    ∃ m' v' w', (do pure (Value.pointer (some (← newRow t cs'.toArray))) : Sem Value).run P w = .ok v' w' ∧ VRel m' v v' ∧ Step m H w m' H' w' := by
  unfold newV at h
  split at h
  · rename_i h1
    simp only [Option.some.injEq, Prod.mk.injEq] at h
    obtain ⟨rfl, rfl⟩ := h
    refine ⟨_, .pointer (some ⟨w.heap.size, 0, none⟩), { w with heap := w.heap.push (.cells cs'.toArray t) }, by simp [newRow], ?_, Step.new hr hl (cs := cs'.toArray) (e := t) (fr := (0, 0)) (sz := 1) (room := 0) hv h1 (by simp [hv.1]) (by simp) (.inl rfl) rfl rfl rfl rfl⟩
    have := VRel.ptr (m := mput m H.n ⟨w.heap.size, 0, 0⟩) (b := H.n) (o := 0) (p := ⟨w.heap.size, 0, 0⟩) (by simp [mput])
    simpa using this
  · cases h
theorem newS_sound {P : Program} {m : Mp} {H H' : Heap} {w : World} {cs cs' : List Value} {v : Value} {t : TypeId} {sz len cap : Nat} (hr : HRel m H w) (hl : MLow m H.n) (hv : LRel m cs cs') (h : newS sz len cap cs H = some (v, H')) (hlc : len ≤ cap) :
    ∃ m' v' w', (do pure (Value.slice (some (← newRow t cs'.toArray)) len cap) : Sem Value).run P w = .ok v' w' ∧ VRel m' v v' ∧ Step m H w m' H' w' := by
  unfold newS at h
  split at h
  · rename_i h1
    simp only [Option.some.injEq, Prod.mk.injEq] at h
    obtain ⟨rfl, rfl⟩ := h
    refine ⟨_, .slice (some ⟨w.heap.size, 0, none⟩) len cap, { w with heap := w.heap.push (.cells cs'.toArray t) }, by simp [newRow], ?_, Step.new hr hl (cs := cs'.toArray) (e := t) (fr := (0, 0)) (sz := sz) (room := 0) hv h1 (by simp [hv.1]) (by simp) (.inl rfl) rfl rfl rfl rfl⟩
    have := VRel.slc (m := mput m H.n ⟨w.heap.size, 0, 0⟩) (b := H.n) (o := 0) (p := ⟨w.heap.size, 0, 0⟩) (len := len) (cap := cap) (cap' := cap) (by simp [mput]) (Nat.le_refl _) (by simp) hlc
    simpa using this
  · cases h

end Go.Eng
