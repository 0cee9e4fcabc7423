/- Texts that are gone through, maps. -/
import Derived.Test.YtiflkdemlhpibaaDoorEnhG
import Derived.MapKept
set_option linter.unusedVariables false
namespace Go.Eng
open Go

/-- A block that is none of cells is made. -/
theorem Step.newObj {m : Mp} {H : Heap} {w w1 : World} (hr : HRel m H w) (hl : MLow m H.n) {o : Ob} {x : Obj} (ho : ObRel m o x)
    (hw : w1.heap = w.heap.push x) (hos : w1.os = w.os) (ht : w1.tape = w.tape) (hout : w1.output = w.output) : Step m H w (mput m H.n ⟨w.heap.size, 0, 0⟩) (H.push (obj o)) w1 := by
  have hle := mput_le hl ⟨w.heap.size, 0, 0⟩
  have hold : ∀ i, i < w.heap.size → w1.heap[i]? = w.heap[i]? := fun i hi => by rw [hw, Array.getElem?_push]; simp [Nat.ne_of_lt hi]
  have hnew : w1.heap[w.heap.size]? = some x := by rw [hw]; simp
  have hmb : ∀ b q blk, H.get b = some blk → mput m H.n ⟨w.heap.size, 0, 0⟩ b = some q → m b = some q := fun b q blk hb hq => by
    have := hr.low b blk hb
    simp only [mput] at hq
    rwa [if_neg (by omega)] at hq
  have hblt : ∀ b q blk, H.get b = some blk → m b = some q → q.blk < w.heap.size := fun b q blk hb hq => (hr.blk b blk q hb hq).lt
  refine ⟨?_, by simp [Heap.push], ⟨?_, ?_, ?_, ?_, ?_⟩, by rw [hw]; simp, fun c hc _ => hold c hc, ?_, hos, ht, hout, ?_, ?_, ?_, ?_⟩
  · intro b hb; simp only [mput]; rw [if_neg (by omega)]
  · intro b blk hb
    simp only [Heap.push] at hb ⊢
    split at hb
    · omega
    · have := hr.low _ _ hb; omega
  · intro b blk p hb hp
    simp only [Heap.push] at hb
    split at hb
    · rename_i he
      subst he
      injection hb with hb; subst hb
      simp only [mput, if_true] at hp
      injection hp with hp; subst hp
      exact .inr ⟨o, x, rfl, rfl, rfl, hnew, ho.mono hle⟩
    · exact ((hr.blk b blk p hb (hmb b p blk hb hp)).mono hle).at (hold _ (hblt b p blk hb (hmb b p blk hb hp)))
  · intro b1 b2 k1 k2 p1 p2 hne e1 o1 e2 m1 m2
    simp only [Heap.push] at e1 e2
    split at e1
    · rename_i he
      subst he
      split at e2
      · rename_i he2; exact absurd he2.symm hne
      · have h2 := hblt _ _ _ e2 (hmb _ _ _ e2 m2)
        simp only [mput, if_true] at m1
        injection m1 with m1; subst m1
        simp only; omega
    · split at e2
      · rename_i he2
        subst he2
        have h1 := hblt _ _ _ e1 (hmb _ _ _ e1 m1)
        simp only [mput, if_true] at m2
        injection m2 with m2; subst m2
        simp only; omega
      · exact hr.inj b1 b2 k1 k2 p1 p2 hne e1 o1 e2 (hmb _ _ _ e1 m1) (hmb _ _ _ e2 m2)
  · intro b blk hb
    simp only [Heap.push] at hb
    split at hb
    · injection hb with hb; subst hb; rfl
    · exact hr.one b blk hb
  · intro b blk p hb ho hp
    simp only [Heap.push] at hb
    split at hb
    · injection hb with hb; subst hb; cases ho
    · exact hr.froz b blk p hb ho (hmb b p blk hb hp)
  · intro b blk p hb ho hp hlt
    simp only [Heap.push] at hb
    split at hb
    · rename_i he
      subst he
      simp only [mput, if_true] at hp
      injection hp with hp; subst hp
      simp at hlt
    · exact ⟨b, blk, p, hb, ho, hmb b p blk hb hp, rfl⟩
  · intro b blk hlt hb _
    simp only [Heap.push]; rw [if_neg (by omega)]; exact hb
  · intro b blk hlt hb _
    simp only [Heap.push] at hb; rw [if_neg (by omega)] at hb; exact hb
  · intro _ b p hp
    simp only [mput] at hp
    simp only [Heap.push]
    split at hp
    · omega
    · have := hl b p hp; omega
  · intro b blk h1 hb
    simp only [Heap.push] at hb
    split at hb
    · injection hb with hb; subst hb; rfl
    · have := hr.low _ _ hb; omega
/-- It is changed. -/
theorem Step.setObj {m : Mp} {H : Heap} {w : World} (hr : HRel m H w) {b : Nat} {o o' : Ob} {x x' : Obj} {p : Pl} (hb : H.get b = some (obj o)) (hm : m b = some p) (hx : w.heap[p.blk]? = some x) (ho : ObRel m o' x') :
    Step m H w m (H.upd b (some (obj o'))) { w with heap := w.heap.setIfInBounds p.blk x' } := by
  have hg : p.blk < w.heap.size := (Array.getElem?_eq_some_iff.1 hx).1
  have hset : ∀ i, (w.heap.setIfInBounds p.blk x')[i]? = if p.blk = i then some x' else w.heap[i]? := fun i => by
    rw [Array.getElem?_setIfInBounds]
    by_cases hi : p.blk = i
    · subst hi; simp [hg]
    · simp [hi]
  have hpl := hr.blk b _ p hb hm
  have h0 : p.off = 0 ∧ p.room = 0 := by
    rcases hpl with h | ⟨_, _, _, h1, h2, _⟩
    · cases h.1
    · exact ⟨h1, h2⟩
  refine ⟨fun _ _ => rfl, Nat.le_refl _, ⟨?_, ?_, ?_, ?_, ?_⟩, by simp, ?_, ?_, rfl, rfl, rfl, ?_, ?_, id, ?_⟩
  · intro b' blk' hb'
    simp only [Heap.upd] at hb' ⊢
    split at hb'
    · rename_i he; subst he; exact hr.low _ _ hb
    · exact hr.low _ _ hb'
  · intro b' blk' p' hb' hm'
    simp only [Heap.upd] at hb'
    split at hb'
    · rename_i he
      subst he
      rw [hm] at hm'
      injection hm' with hm'; subst hm'
      injection hb' with hb'; subst hb'
      exact .inr ⟨o', x', rfl, h0.1, h0.2, by simp only [hset, if_true], ho⟩
    · rename_i hne
      have : p.blk ≠ p'.blk := hr.inj b b' _ blk' p p' (Ne.symm hne) hb rfl hb' hm hm'
      exact (hr.blk b' blk' p' hb' hm').at (by simp only [hset, if_neg this])
  · intro b1 b2 k1 k2 p1 p2 hne e1 o1 e2 m1 m2
    simp only [Heap.upd] at e1 e2
    have f1 : ∃ k, H.get b1 = some k ∧ k.own = true := by
      split at e1
      · rename_i he; subst he; exact ⟨_, hb, rfl⟩
      · exact ⟨k1, e1, o1⟩
    have f2 : ∃ k, H.get b2 = some k := by
      split at e2
      · rename_i he; subst he; exact ⟨_, hb⟩
      · exact ⟨k2, e2⟩
    obtain ⟨j1, f1, f1'⟩ := f1
    obtain ⟨j2, f2⟩ := f2
    exact hr.inj b1 b2 j1 j2 p1 p2 hne f1 f1' f2 m1 m2
  · intro b' blk' hb'
    simp only [Heap.upd] at hb'
    split at hb'
    · injection hb' with hb'; subst hb'; rfl
    · exact hr.one b' blk' hb'
  · intro b' blk' p' hb' ho'
    simp only [Heap.upd] at hb'
    split at hb'
    · injection hb' with hb'; subst hb'; cases ho'
    · exact hr.froz b' blk' p' hb' ho'
  · intro c hc hn
    simp only [hset]
    rw [if_neg (hn b _ p hb rfl hm)]
  · intro b' blk' p' hb' ho' hm' hlt
    simp only [Heap.upd] at hb'
    split at hb'
    · rename_i he; subst he; exact ⟨b', _, p', hb, rfl, hm', rfl⟩
    · exact ⟨b', blk', p', hb', ho', hm', rfl⟩
  · intro b' blk' hlt hb' ho'
    simp only [Heap.upd]
    rw [if_neg (fun he => by subst he; rw [hb] at hb'; injection hb' with hb'; subst hb'; cases ho')]
    exact hb'
  · intro b' blk' hlt hb' ho'
    simp only [Heap.upd] at hb'
    split at hb'
    · injection hb' with hb'; subst hb'; cases ho'
    · exact hb'
  · intro b' blk' h1 hb'
    simp only [Heap.upd] at hb'
    split at hb'
    · injection hb' with hb'; subst hb'; rfl
    · have := hr.low _ _ hb'; omega

theorem obAt_inv {H : Heap} {b : Nat} {o : Ob} (h : obAt H b = some o) : ∃ k, H.get b = some k ∧ k.ob.o = some o := by
  unfold obAt at h
  simp only [Option.bind_eq_some_iff] at h
  exact h
theorem obAt_rel {m : Mp} {H : Heap} {w : World} (hr : HRel m H w) {b : Nat} {o : Ob} {p : Pl} (h : obAt H b = some o) (hm : m b = some p) :
    H.get b = some (obj o) ∧ p.off = 0 ∧ ∃ x, w.heap[p.blk]? = some x ∧ ObRel m o x := by
  obtain ⟨k, h1, h2⟩ := obAt_inv h
  rcases hr.blk b k p h1 hm with q | ⟨o', x, rfl, q2, q3, q4, q5⟩
  · have := q.1
    simp only [Blk.plain, h2] at this; cases this
  · have e : o' = o := Option.some.inj h2
    subst e
    exact ⟨h1, q2, x, q4, q5⟩
theorem VRel.map_inv {m : Mp} {b : Nat} {v' : Value} (h : VRel m (.map (some b)) v') : ∃ p, m b = some p ∧ v' = .map (some p.blk) := by
  cases h with
  | flat h => simp [flat1] at h
  | mapv h => exact ⟨_, h, rfl⟩

section
variable {P : Program} {m : Mp} {H H' : Heap} {w : World} {x x' k k' y y' v : Value} {t kt et : TypeId} {d : TypeDesc}
theorem rngS_sound (hr : HRel m H w) (hl : MLow m H.n) (hx : VRel m x x') (hu : P.underlying t = some .string) (h : rngS x H = some (v, H')) :
    ∃ m' v' w', (Instr.range t x').run P w = .ok v' w' ∧ VRel m' v v' ∧ Step m H w m' H' w' := by
  unfold rngS at h
  split at h
  case h_2 => cases h
  rename_i s
  obtain rfl := hx.string_inv
  simp only [Option.some.injEq, Prod.mk.injEq] at h
  obtain ⟨rfl, rfl⟩ := h
  refine ⟨_, .pointer (some ⟨w.heap.size, 0, none⟩), w.alloc (.stringIter s 0), by simp [Instr.range, run_underlying hu, Result.andThen], ?_, Step.newObj hr hl (x := .stringIter s 0) rfl rfl rfl rfl rfl⟩
  have := VRel.ptr (m := mput m H.n ⟨w.heap.size, 0, 0⟩) (b := H.n) (o := 0) (p := ⟨w.heap.size, 0, 0⟩) (by simp [mput])
  simpa using this
theorem nxtS_sound (hr : HRel m H w) (hx : VRel m x x') (h : nxtS x H = some (v, H')) :
    ∃ w', (Instr.next x' true t).run P w = .ok v w' ∧ VRel m v v ∧ Step m H w m H' w' := by
  unfold nxtS at h
  split at h
  case h_2 => cases h
  rename_i b
  obtain ⟨p, hp, rfl⟩ := hx.ptr_inv
  split at h
  case h_2 => cases h
  rename_i s pos hob
  obtain ⟨q1, q2, ob, q3, q4⟩ := obAt_rel hr hob hp
  obtain rfl : ob = .stringIter s pos := q4
  have e0 : (getObj p.blk).run P w = .ok (.stringIter s pos) w := by simp [getObj, Sem.run, q3]
  have e1 : ∀ o, (setObj p.blk o).run P w = .ok () { w with heap := w.heap.setIfInBounds p.blk o } := fun o => by simp [setObj, Sem.run, q3]
  split at h
  · rename_i hlt
    simp only [Option.some.injEq, Prod.mk.injEq] at h
    obtain ⟨rfl, rfl⟩ := h
    refine ⟨_, by simp [Instr.next, q2, e0, e1, hlt, goInt, Result.andThen], .tuple' (LRel.cons (.flat rfl) (LRel.cons (.flat rfl) (LRel.cons (.flat rfl) .nil))), Step.setObj hr q1 hp q3 rfl⟩
  · rename_i hge
    simp only [Option.some.injEq, Prod.mk.injEq] at h
    obtain ⟨rfl, rfl⟩ := h
    exact ⟨w, by simp [Instr.next, q2, e0, hge, Result.andThen], .tuple' (LRel.cons (.flat rfl) .nil), Step.refl hr⟩
theorem mkM_sound (hr : HRel m H w) (hl : MLow m H.n) (hu : P.underlying t = some (.map kt et)) {r r' : Option Value} (hrr : ∀ y, r' = some y → ∃ ik n, y = .int ik n) (h : mkM H = some (v, H')) :
    ∃ m' v' w', (Instr.makeMap t r').run P w = .ok v' w' ∧ VRel m' v v' ∧ Step m H w m' H' w' := by
  unfold mkM at h
  simp only [Option.some.injEq, Prod.mk.injEq] at h
  obtain ⟨rfl, rfl⟩ := h
  refine ⟨_, .map (some w.heap.size), w.alloc (.map #[] 0), ?_, ?_, Step.newObj hr hl (x := .map #[] 0) ⟨#[], rfl, rfl, by simp⟩ rfl rfl rfl rfl⟩
  · cases r' with
    | none => simp [Instr.makeMap, Result.andThen]
    | some y =>
      obtain ⟨ik, n, rfl⟩ := hrr y rfl
      simp [Instr.makeMap, run_underlying hu, asInt, asIntOf, Result.andThen]
  · exact .mapv (p := ⟨w.heap.size, 0, 0⟩) (by simp [mput])
theorem keyB_is (h : keyB d k = true) : MapKept.IsKey d k := by
  unfold keyB at h
  split at h
  · trivial
  · trivial
  · have h := beq_iff_eq.1 h
    simp [MapKept.IsKey, h]
  · cases h
theorem findM_sound {es : List Ent} {es' : List MapEntry} (hlen : es'.length = es.length) (he : ∀ (i : Nat) e, es[i]? = some e → flat1 e.key = true ∧ ∃ v', es'[i]? = some ⟨e.key, v', e.born⟩ ∧ VRel m e.val v') :
    ∀ {i : Nat} {r : Option (Nat × Value)}, findM d k es i = some r → (r = none ∧ Instr.findNow d k es' i = some none) ∨
      ∃ j v v', r = some (i + j, v) ∧ Instr.findNow d k es' i = some (some (i + j, v')) ∧ VRel m v v' ∧ ∃ e, es[j]? = some e ∧ Instr.sameNow d k e.key = some true := by
  induction es generalizing es' with
  | nil =>
    intro i r h
    have : es' = [] := List.length_eq_zero_iff.1 hlen
    subst this
    simp only [findM, Option.some.injEq] at h
    exact .inl ⟨h.symm, rfl⟩
  | cons e es ih =>
    intro i r h
    obtain ⟨_, v', h1, h2⟩ := he 0 e rfl
    cases es' with
    | nil => simp at hlen
    | cons e' es' =>
      simp only [List.getElem?_cons_zero, Option.some.injEq] at h1
      subst h1
      simp only [findM] at h
      split at h
      · rename_i hs
        simp only [Option.some.injEq] at h
        subst h
        exact .inr ⟨0, e.val, v', rfl, by simp [Instr.findNow, hs], h2, e, rfl, hs⟩
      · rename_i hs
        rcases ih (by simpa using hlen) (fun j x hx => by have := he (j + 1) x (by simpa using hx); simpa using this) h with ⟨r1, r2⟩ | ⟨j, u, u', r1, r2, r3, x, r4, r5⟩
        · exact .inl ⟨r1, by simp [Instr.findNow, hs, r2]⟩
        · exact .inr ⟨j + 1, u, u', by rw [r1]; congr 2; omega, by simp only [Instr.findNow, hs, r2]; congr 3; omega, r3, x, by simpa using r4, r5⟩
      · cases h
theorem lkM_sound (hr : HRel m H w) (hx : VRel m x x') (hk : keyB d k = true) (hu : P.underlying t = some (.map kt et)) (hd : P.underlying kt = some d) {z : Value} (hz : zeroOf P et = some z) {ok : Bool} (h : lkM d z ok x k H = some (v, H')) :
    H' = H ∧ ∃ v', (Instr.lookup t x' k ok).run P w = .ok v' w ∧ VRel m v v' := by
  have hzr := run_zero (P := P) hz
  have hzv : VRel m z z := VRel.ofFlat (zeroOf_inv hz).2
  have hck : ∀ e, (Instr.checkKey e 10000 kt k).run P w = .ok () w := fun e => MapKept.run_checkKey hd (keyB_is hk) e 9999
  have two : ∀ {a a' : Value} {b : Bool}, VRel m a a' → VRel m (if ok then .tuple #[a, .bool b] else a) (if ok then .tuple #[a', .bool b] else a') := fun {a a' b} ha => by
    cases ok with
    | true => exact .tuple' (LRel.cons ha (LRel.cons (.flat rfl) .nil))
    | false => exact ha
  unfold lkM at h
  split at h
  · obtain rfl := hx.eq_of_flat1 rfl
    simp only [Option.some.injEq, Prod.mk.injEq] at h
    obtain ⟨rfl, rfl⟩ := h
    refine ⟨rfl, if ok then .tuple #[z, .bool false] else z, ?_, two hzv⟩
    simp [Instr.lookup, run_underlying hu, hck, MapKept.run_findKey (l := []) hd (show Instr.findNow d k [] 0 = some none from rfl), hzr, Result.andThen]
  · rename_i b
    obtain ⟨p, hp, rfl⟩ := hx.map_inv
    split at h
    case h_2 => cases h
    rename_i es clock hob
    obtain ⟨q1, q2, ob, q3, q4⟩ := obAt_rel hr hob hp
    obtain ⟨es', rfl, h1, h2⟩ := q4
    have hg := MapKept.run_getObj_map (P := P) q3
    split at h
    · rename_i i u hf
      simp only [Option.some.injEq, Prod.mk.injEq] at h
      obtain ⟨rfl, rfl⟩ := h
      rcases findM_sound h1 h2 hf with ⟨r1, _⟩ | ⟨j, u1, u', r1, r2, r3, _⟩
      · cases r1
      · simp only [Option.some.injEq, Prod.mk.injEq] at r1
        obtain ⟨_, rfl⟩ := r1
        refine ⟨rfl, if ok then .tuple #[u', .bool true] else u', ?_, two r3⟩
        simp [Instr.lookup, run_underlying hu, hg, hck, MapKept.run_findKey hd r2, Result.andThen]
    · rename_i hf
      simp only [Option.some.injEq, Prod.mk.injEq] at h
      obtain ⟨rfl, rfl⟩ := h
      rcases findM_sound h1 h2 hf with ⟨_, r2⟩ | ⟨j, u1, u', r1, _⟩
      · refine ⟨rfl, if ok then .tuple #[z, .bool false] else z, ?_, two hzv⟩
        simp [Instr.lookup, run_underlying hu, hg, hck, MapKept.run_findKey hd r2, hzr, Result.andThen]
      · cases r1
    · cases h
  · cases h
theorem sameNow_key {a b : Value} (ha : keyB d a = true) (h : Instr.sameNow d a b = some true) : b = a := by
  unfold Instr.sameNow at h
  split at h
  · split at h
    · rename_i hk
      subst hk
      simp only [Option.some.injEq, beq_iff_eq] at h
      rw [h]
    · cases h
  · simp only [Option.some.injEq] at h
    have : _ := (MapKept.bytes_beq _ _).1 h
    rw [this]
  · simp only [Option.some.injEq, beq_iff_eq] at h
    rw [h]
  · cases h
theorem keyB_flat (h : keyB d k = true) : flat1 k = true := by
  unfold keyB at h
  split at h <;> first | rfl | cases h
theorem upM_sound (hr : HRel m H w) (hx : VRel m x x') (hk : keyB d k = true) (hy : VRel m y y') (hu : P.underlying t = some (.map kt et)) (hd : P.underlying kt = some d) (h : upM d x k y H = some (v, H')) :
    v = undef ∧ ∃ w', (Instr.mapUpdate t x' k y').run P w = .ok () w' ∧ Step m H w m H' w' := by
  have hck : ∀ e, (Instr.checkKey e 10000 kt k).run P w = .ok () w := fun e => MapKept.run_checkKey hd (keyB_is hk) e 9999
  unfold upM at h
  split at h
  case h_2 => cases h
  rename_i b
  obtain ⟨p, hp, rfl⟩ := hx.map_inv
  split at h
  case h_2 => cases h
  rename_i es clock hob
  obtain ⟨q1, q2, ob, q3, q4⟩ := obAt_rel hr hob hp
  obtain ⟨es', rfl, h1, h2⟩ := q4
  have hg := MapKept.run_getObj_map (P := P) q3
  have hs := fun o => MapKept.run_setObj_map (P := P) o q3
  split at h
  · rename_i i u hf
    simp only [Option.some.injEq, Prod.mk.injEq] at h
    obtain ⟨rfl, rfl⟩ := h
    rcases findM_sound h1 h2 hf with ⟨r1, _⟩ | ⟨j, u1, u', r1, r2, r3, e, r4, r5⟩
    · cases r1
    · simp only [Option.some.injEq, Prod.mk.injEq, Nat.zero_add] at r1
      obtain ⟨rfl, rfl⟩ := r1
      have hek : e.key = k := sameNow_key hk r5
      obtain ⟨_, v', e1, e2⟩ := h2 i e r4
      have e1' : es'[i]? = some ⟨e.key, v', e.born⟩ := by simpa using e1
      have hst : (Instr.keyThatStays (((es'[i]?).map (·.key)).getD k) k).run P w = .ok k w := by
        rw [e1']
        simp only [Option.map_some, Option.getD_some, hek]
        exact MapKept.run_keyThatStays (keyB_is hk)
      refine ⟨rfl, _, ?_, Step.setObj (o' := .map (es.modify i fun e => ⟨k, y, e.born⟩) clock) (x' := .map (es'.modify i fun e => { e with key := k, val := y' }) clock) hr q1 hp q3 ⟨_, rfl, by simp [h1], ?_⟩⟩
      · rw [Nat.zero_add] at r2
        simp only [Instr.mapUpdate, Sem.run_bind, run_underlying hu, hg, hck, MapKept.run_findKey hd r2, Result.andThen, hst, hs]
      · intro l x hx
        simp only [List.getElem?_modify, Option.map_eq_map, Option.map_eq_some_iff] at hx
        obtain ⟨x0, hx0, rfl⟩ := hx
        obtain ⟨g1, g2, g3, g4⟩ := h2 l x0 hx0
        simp only [Array.toList_modify, List.getElem?_modify, g3]
        by_cases hl : i = l
        · subst hl
          simp only [if_true]
          exact ⟨keyB_flat hk, y', rfl, hy⟩
        · simp only [if_neg hl]
          exact ⟨g1, g2, rfl, g4⟩
  · rename_i hf
    simp only [Option.some.injEq, Prod.mk.injEq] at h
    obtain ⟨rfl, rfl⟩ := h
    rcases findM_sound h1 h2 hf with ⟨_, r2⟩ | ⟨j, u1, u', r1, _⟩
    · refine ⟨rfl, _, ?_, Step.setObj (o' := .map (es ++ [⟨k, y, clock⟩]) (clock + 1)) (x' := .map (es'.push ⟨k, y', clock⟩) (clock + 1)) hr q1 hp q3 ⟨_, rfl, by simp [h1], ?_⟩⟩
      · simp only [Instr.mapUpdate, Sem.run_bind, run_underlying hu, hg, hck, MapKept.run_findKey hd r2, Result.andThen, hs]
      · intro l x hx
        rcases Nat.lt_or_ge l es.length with hl | hl
        · rw [List.getElem?_append_left hl] at hx
          obtain ⟨g1, g2, g3, g4⟩ := h2 l x hx
          refine ⟨g1, g2, ?_, g4⟩
          simp only [Array.toList_push]
          rw [List.getElem?_append_left (by omega)]; exact g3
        · rw [List.getElem?_append_right hl] at hx
          have hl0 : l - es.length = 0 := by
            have := (List.getElem?_eq_some_iff.1 hx).1
            simp at this; omega
          rw [hl0] at hx
          simp only [List.getElem?_cons_zero, Option.some.injEq] at hx
          subst hx
          refine ⟨keyB_flat hk, y', ?_, hy⟩
          simp only [Array.toList_push]
          rw [List.getElem?_append_right (by omega), h1, hl0]; rfl
    · cases r1
  · cases h
theorem lenM_sound {ty : TypeId} {ts : Array TypeId} (hr : HRel m H w) (hx : VRel m x x') (h0 : ts[0]? = some t) (hu : P.underlying t = some (.map kt et)) (h : lenM x H = some (v, H')) :
    H' = H ∧ (Builtin.len_ ts ty #[x']).run P w = .ok v w ∧ VRel m v v := by
  unfold lenM at h
  split at h
  · obtain rfl := hx.eq_of_flat1 rfl
    simp only [Option.some.injEq, Prod.mk.injEq] at h
    obtain ⟨rfl, rfl⟩ := h
    exact ⟨rfl, by simp [Builtin.len_, h0, run_underlying hu, goInt], .flat rfl⟩
  · rename_i b
    obtain ⟨p, hp, rfl⟩ := hx.map_inv
    split at h
    case h_2 => cases h
    rename_i es clock hob
    obtain ⟨q1, q2, ob, q3, q4⟩ := obAt_rel hr hob hp
    obtain ⟨es', rfl, h1, h2⟩ := q4
    simp only [Option.some.injEq, Prod.mk.injEq] at h
    obtain ⟨rfl, rfl⟩ := h
    have h1' : es'.size = es.length := by simpa using h1
    exact ⟨rfl, by simp [Builtin.len_, h0, run_underlying hu, goInt, MapKept.run_getObj_map q3, Result.andThen, h1'], .flat rfl⟩
  · cases h
end
end Go.Eng
