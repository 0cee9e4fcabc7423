/- append, copy, conversions between bytes and strings. -/
import Derived.Test.YtiflkdemlhpibaaDoorEnhC
import Derived.Laws.Append
import Derived.Laws.BytesString
import Derived.Laws.IdiomStrings
set_option linter.unusedVariables false
namespace Go.Eng
open Go

theorem HRel.of_heap {m : Mp} {H : Heap} {w w' : World} (h : HRel m H w) (hh : w'.heap = w.heap) : HRel m H w' := by
  exact ⟨h.low, fun b k p h1 h2 => (h.blk b k p h1 h2).at (by rw [hh]), h.inj, h.one, h.froz⟩
/-- Only the count of draws has moved. -/
theorem Step.same {m : Mp} {H : Heap} {w w' : World} (h : HRel m H w) (hh : w'.heap = w.heap) (h1 : w'.os = w.os) (h2 : w'.tape = w.tape) (h3 : w'.output = w.output) : Step m H w m H w' :=
  ⟨fun _ _ => rfl, Nat.le_refl _, h.of_heap hh, by rw [hh]; exact Nat.le_refl _, fun _ _ _ => by rw [hh], fun b blk p h1 h2 h3 _ => ⟨b, blk, p, h1, h2, h3, rfl⟩, h1, h2, h3, fun _ _ _ h _ => h, fun _ _ _ h _ => h, id, fun b blk h1 h2 => by have := h.low b blk h2; omega⟩

/-- A slice's value on the other side. -/
theorem VRel.slice_inv {m : Mp} {b o len cap : Nat} {sp : Option Nat} {v' : Value} (h : VRel m (.slice (some ⟨b, o, sp⟩) len cap) v') :
    (len = 0 ∧ cap = 0 ∧ ∃ a', v' = .slice (some a') 0 0) ∨ ∃ p cap', m b = some p ∧ v' = .slice (some ⟨p.blk, p.off + o, none⟩) len cap' ∧ len ≤ cap ∧ cap ≤ cap' ∧ cap' ≤ cap + p.room ∧ (sp = none ∨ sp = some 0 ∧ cap' = cap) := by
  cases h with
  | flat h => simp [flat1] at h
  | slc h h1 h2 h3 => exact .inr ⟨_, _, h, rfl, h3, h1, h2, .inl rfl⟩
  | slx h h3 => exact .inr ⟨_, _, h, rfl, h3, Nat.le_refl _, Nat.le_add_right _ _, .inr ⟨rfl, rfl⟩⟩
  | sl0 h => exact .inl ⟨rfl, rfl, _, rfl⟩
theorem VRel.slice_mapped {m : Mp} {b o len cap : Nat} {sp : Option Nat} {v' : Value} (h : VRel m (.slice (some ⟨b, o, sp⟩) len cap) v') : ∃ p, m b = some p := by
  cases h with
  | flat h => simp [flat1] at h
  | slc h h1 h2 h3 => exact ⟨_, h⟩
  | slx h h3 => exact ⟨_, h⟩
  | sl0 h => exact ⟨_, h⟩
theorem VRel.slice_nil_inv {m : Mp} {len cap : Nat} {v' : Value} (h : VRel m (.slice none len cap) v') : len = 0 ∧ cap = 0 ∧ v' = .slice none 0 0 := by
  cases h with
  | flat h => simp [flat1] at h; obtain ⟨rfl, rfl⟩ := h; exact ⟨rfl, rfl, rfl⟩
theorem VRel.string_inv {m : Mp} {s : ByteArray} {v' : Value} (h : VRel m (.string s) v') : v' = .string s := h.eq_of_flat1 rfl
theorem VRel.int_inv {m : Mp} {k : IntKind} {n : Int} {v' : Value} (h : VRel m (.int k n) v') : v' = .int k n := h.eq_of_flat1 rfl
theorem VRel.bool_inv {m : Mp} {b : Bool} {v' : Value} (h : VRel m (.bool b) v') : v' = .bool b := h.eq_of_flat1 rfl

/-- What is appended reads the same on the other side, in each world with that memory. -/
theorem addend_sound {P : Program} {m : Mp} {H : Heap} {w : World} {x x' : Value} {sz n : Nat} {cs : List Value} (hr : HRel m H w) (hx : VRel m x x') (h : addend sz x H = some (n, cs)) : (∀ w', (Builtin.lenOf x').run P w' = .ok n w') ∧ ∃ cs', LRel m cs cs' ∧ cs.length = n * sz ∧ ∀ k, k ≤ n → ∀ w', w'.heap = w.heap → (Builtin.firstCells sz k x').run P w' = .ok (cs'.take (k * sz)).toArray w' := by
  unfold addend at h
  split at h
  · rename_i n0 c0
    split at h
    · rename_i hn
      simp only [Option.some.injEq, Prod.mk.injEq] at h
      obtain ⟨rfl, rfl⟩ := h
      obtain ⟨rfl, rfl, rfl⟩ := hx.slice_nil_inv
      exact ⟨fun w' => rfl, [], LRel.nil, by simp, fun k hk w' hw => by simp [Builtin.firstCells]⟩
    · cases h
  · rename_i b o sp n0 c0
    split at h
    · rename_i hn0
      simp only [Option.some.injEq, Prod.mk.injEq] at h
      obtain ⟨rfl, rfl⟩ := h
      subst hn0
      rcases hx.slice_inv with ⟨_, rfl, a', rfl⟩ | ⟨p, cap', hp, rfl, _, _, _, _⟩
      · exact ⟨fun w' => rfl, [], LRel.nil, by simp, fun k hk w' hw => by
          have : k = 0 := by omega
          subst this
          simp [Builtin.firstCells, loadCells, loadCellsFrom]⟩
      · exact ⟨fun w' => rfl, [], LRel.nil, by simp, fun k hk w' hw => by
          have : k = 0 := by omega
          subst this
          simp [Builtin.firstCells, loadCells, loadCellsFrom]⟩
    split at h
    · rename_i blk hb
      split at h
      · rename_i hle
        simp only [Option.some.injEq, Prod.mk.injEq] at h
        obtain ⟨rfl, rfl⟩ := h
        rcases hx.slice_inv with ⟨rfl, rfl, a', rfl⟩ | ⟨p, cap', hp, rfl, _, _, _, _⟩
        · refine ⟨fun w' => rfl, [], by simpa [cut] using LRel.nil, by simp [cut], fun k hk w' hw => ?_⟩
          have : k = 0 := by omega
          subst this
          simp [Builtin.firstCells, loadCells, loadCellsFrom]
        · obtain ⟨l', hl, hrel, hc⟩ := hr.cells hb hp hle
          refine ⟨fun w' => rfl, l', hrel, by simp [cut]; omega, fun k hk w' hw => ?_⟩
          simp only [Builtin.firstCells]
          have hks : k * sz ≤ n0 * sz := Nat.mul_le_mul_right _ hk
          refine run_cells (by simp; omega) fun j v hj => ?_
          rw [List.getElem?_take] at hj
          split at hj
          · have := hc j v hj
            unfold World.cell? at this ⊢
            rw [hw]; exact this
          · cases hj
      · cases h
    · cases h
  · rename_i s
    split at h
    case isFalse => cases h
    rename_i hsz
    subst hsz
    simp only [Option.some.injEq, Prod.mk.injEq] at h
    obtain ⟨rfl, rfl⟩ := h
    obtain rfl := hx.string_inv
    have hfl : ∀ l : List UInt8, LRel m (l.map fun c => Value.int .u8 c.toNat) (l.map fun c => Value.int .u8 c.toNat) := fun l => by
      induction l with
      | nil => exact LRel.nil
      | cons c l ih => exact LRel.cons (.flat rfl) ih
    refine ⟨fun w' => rfl, _, hfl _, by simp, fun k hk w' hw => ?_⟩
    simp only [Builtin.firstCells, Sem.run_pure]
    congr 1
    apply Array.ext'
    simp
  · cases h

section
variable {P : Program} {w : World} {sz by_ len cap n : Nat} {t ty e : TypeId} {ts : Array TypeId} {z x : Value} {d2 : TypeDesc} {t2 : TypeId} {base : Option Addr} {new : List Value}
theorem run_app_in (h0 : ts[0]? = some t) (hu : P.underlying t = some (.slice e)) (hsz : szOf P e = some sz) (h2 : ts[1]? = some t2) (hu2 : P.underlying t2 = some d2) (hd2 : ∀ k, d2 ≠ .int k)
    (hlen : ∀ w', (Builtin.lenOf x).run P w' = .ok n w') (hf : (Builtin.firstCells sz n x).run P w = .ok new.toArray w) (hc : len + n ≤ cap) :
    (Builtin.append_ ts ty #[.slice base len cap, x]).run P w =
      match base with
      | some a => ((storeCells (a.add (len * sz)) new).run P w).andThen fun _ w' => .ok (.slice base (len + n) cap) w'
      | none => .ok (.slice base (len + n) cap) w := by
  have hnot : (match d2 with | .int _ => true | _ => false) = false := by cases d2 <;> first | rfl | exact absurd rfl (hd2 _)
  simp only [Builtin.append_, h0, h2]
  simp [hc, hf, hnot, hlen, run_size hsz, run_underlying hu, run_underlying hu2]
  cases base <;> simp
theorem run_app_new (h0 : ts[0]? = some t) (hu : P.underlying t = some (.slice e)) (hsz : szOf P e = some sz) (h2 : ts[1]? = some t2) (hu2 : P.underlying t2 = some d2) (hd2 : ∀ k, d2 ≠ .int k)
    (hby : bytesOf P e = some by_) (hb0 : 0 < by_) (hz : zeroOf P e = some z) {old : List Value}
    (hlen : ∀ w', (Builtin.lenOf x).run P w' = .ok n w') (hf : ∀ w', w'.heap = w.heap → (Builtin.firstCells sz n x).run P w' = .ok new.toArray w')
    (ho : ∀ w', w'.heap = w.heap → (Builtin.firstCells sz len (.slice base len cap)).run P w' = .ok old.toArray w') (hc : cap < len + n) (hm : (len + n) * by_ ≤ mostBytes) :
    ∃ nc, len + n ≤ nc ∧ (Builtin.append_ ts ty #[.slice base len cap, x]).run P w = .ok (.slice (some ⟨w.heap.size, 0, none⟩) (len + n) nc)
        (w.drew.alloc (.cells (old.toArray ++ new.toArray ++ Builtin.zeroCells z.cells (nc - (len + n))) e)) := by
  obtain ⟨i, hi, hib⟩ := run_bytes hby w
  have hi' : P.info? e = some i := by
    unfold bytesOf at hby
    cases h : P.info? e with
    | none => simp [h] at hby
    | some j =>
      rw [run_typeInfo w h] at hi
      injection hi with hi; rw [hi]
  have hnot : (match d2 with | .int _ => true | _ => false) = false := by cases d2 <;> first | rfl | exact absurd rfl (hd2 _)
  have hn1 : ¬ (len + n ≤ cap) := by omega
  have hmul : len + n ≤ (len + n) * by_ := Nat.le_mul_of_pos_right _ hb0
  have h63 : ¬ ((9223372036854775807 : Int) < (len : Int) + (n : Int)) := by unfold mostBytes at hm; omega
  have h48 : ¬ (281474976710656 < Builtin.nextslicecap (len + n) cap * i.bytes) := by
    rw [hib]
    have := growslice_fits (bytes := by_) hc hm
    omega
  have hf' := hf w.drew rfl
  have ho' := ho w.drew rfl
  have hge : len + n ≤ (Question.appendCap (len + n) cap e).cut (w.tape w.drawn (.appendCap (len + n) cap e)) := by simp [Question.cut]
  refine ⟨_, hge, ?_⟩
  simp only [Builtin.append_, h0, h2]
  have hty : ∀ w : World, (typeInfo e).run P w = .ok i w := fun w => run_typeInfo w hi'
  simp [hn1, hnot, hlen, run_size hsz, run_underlying hu, run_underlying hu2, hty, h63, h48, Question.forced, hf', ho', run_zero hz, newRow]
  congr 2
  apply Array.ext'
  simp
end
theorem kp_get {H : Heap} {b i : Nat} {k : Blk} : ((H.upd b none).push k).get i = if i = H.n then some k else if i = b then none else H.get i := rfl
theorem zeros_size {z : Value} {n : Nat} : (Builtin.zeroCells z.cells n).size = n * z.cells.size := by simp [Builtin.zeroCells]

/-- What a slice's first cells are on the other side. -/
theorem first_slice {P : Program} {m : Mp} {H : Heap} {w : World} {b o : Nat} {blk : Blk} {p : Pl} (hr : HRel m H w) (hb : H.get b = some blk) (hp : m b = some p) (len sz cap : Nat) (hk : o + len * sz ≤ blk.cells.length) :
    ∃ l', l'.length = len * sz ∧ LRel m (cut blk.cells o (len * sz)) l' ∧ ∀ w', w'.heap = w.heap → (Builtin.firstCells sz len (.slice (some ⟨p.blk, p.off + o, none⟩) len cap)).run P w' = .ok l'.toArray w' := by
  obtain ⟨l', hl, hrel, hc⟩ := hr.cells hb hp hk
  refine ⟨l', hl, hrel, fun w' hw => ?_⟩
  simp only [Builtin.firstCells]
  exact run_cells hl fun j v hj => by
    have := hc j v hj
    unfold World.cell? at this ⊢
    rw [hw]; exact this

/-- A block is given up. -/
theorem Step.kill {m : Mp} {H : Heap} {w : World} (hr : HRel m H w) {b : Nat} {blk : Blk} (hb : H.get b = some blk) (ho : blk.own = true) : Step m H w m (H.upd b none) w := by
  refine ⟨fun _ _ => rfl, Nat.le_refl _, ⟨?_, ?_, ?_, ?_, ?_⟩, Nat.le_refl _, fun _ _ _ => rfl, ?_, rfl, rfl, rfl, ?_, ?_, id, ?_⟩
  · intro b' k h; simp only [Heap.upd] at h ⊢; split at h
    · cases h
    · exact hr.low b' k h
  · intro b' k p h; simp only [Heap.upd] at h; split at h
    · cases h
    · exact hr.blk b' k p h
  · intro b1 b2 k1 k2 p1 p2 hne e1 o1 e2; simp only [Heap.upd] at e1 e2
    split at e1
    · cases e1
    · split at e2
      · cases e2
      · exact hr.inj b1 b2 k1 k2 p1 p2 hne e1 o1 e2
  · intro b' k h; simp only [Heap.upd] at h; split at h
    · cases h
    · exact hr.one b' k h
  · intro b' k p h; simp only [Heap.upd] at h; split at h
    · cases h
    · exact hr.froz b' k p h
  · intro b' k p h h2 h3 _; simp only [Heap.upd] at h; split at h
    · cases h
    · exact ⟨b', k, p, h, h2, h3, rfl⟩
  · intro b' k hlt h h2
    simp only [Heap.upd]
    rw [if_neg (fun he => by subst he; rw [hb] at h; injection h with h; subst h; rw [ho] at h2; cases h2)]
    exact h
  · intro b' k hlt h h2
    simp only [Heap.upd] at h
    split at h
    · cases h
    · exact h
  · intro b' k h1 h
    simp only [Heap.upd] at h
    split at h
    · cases h
    · exact absurd (hr.low _ _ h) (by have : H.n ≤ b' := h1; omega)

/-- A block is given up for a longer one in the same place. -/
theorem Step.grow {m : Mp} {H : Heap} {w : World} (hr : HRel m H w) (hl : MLow m H.n) {b o : Nat} {blk : Blk} {p : Pl} {cs : Array Value} {e : TypeId} {fr : Nat × Nat} {new new' : List Value} {k : Nat}
    (hb : H.get b = some blk) (ho : blk.own = true) (hm : m b = some p) (hh : w.heap[p.blk]? = some (.cells cs e fr)) (hoo : o ≤ blk.cells.length) (hn : new.length = k * blk.sz) (hk : k ≤ p.room)
    (hv : LRel m new new') (h1 : new.all Eng.oneC = true) :
    Step m H w (mput m H.n ⟨p.blk, p.off + o, p.room - k⟩) ((H.upd b none).push ⟨blk.cells.drop o ++ new, blk.sz, true⟩) (wput w p.blk (spl cs (p.off + blk.cells.length) new') e fr) := by
  obtain ⟨cs0, e0, fr0, hh0, hsz, hc, hf⟩ := (hr.blk b blk p hb hm).plain ((hr.blk b blk p hb hm).plain_of hh)
  rw [hh] at hh0
  injection hh0 with hh0
  injection hh0 with q1 q2 q3
  subst q1; subst q2; subst q3
  have hg : p.blk < w.heap.size := (Array.getElem?_eq_some_iff.1 hh).1
  have hnl : new'.length = new.length := hv.1.symm
  have hrm : k * blk.sz + (p.room - k) * blk.sz = p.room * blk.sz := by rw [← Nat.add_mul, Nat.add_sub_cancel' hk]
  have hle := mput_le hl ⟨p.blk, p.off + o, p.room - k⟩
  have hmb : ∀ b' q, b' < H.n → mput m H.n ⟨p.blk, p.off + o, p.room - k⟩ b' = some q → m b' = some q := fun b' q hb' hq => by
    simp only [mput] at hq
    rwa [if_neg (by omega)] at hq
  refine ⟨?_, by simp [Heap.push, Heap.upd], ⟨?_, ?_, ?_, ?_, ?_⟩, by simp [wput], ?_, ?_, rfl, rfl, rfl, ?_, ?_, ?_, ?_⟩
  · intro b' hb'; simp only [mput]; rw [if_neg (by omega)]
  · intro b' k' h
    rw [kp_get] at h
    show b' < H.n + 1
    split at h
    · omega
    · split at h
      · cases h
      · have := hr.low _ _ h; omega
  · intro b' k' p' h hp'
    rw [kp_get] at h
    split at h
    · rename_i he
      subst he
      injection h with h; subst h
      simp only [mput, if_true] at hp'
      injection hp' with hp'; subst hp'
      refine .inl ⟨rfl, spl cs (p.off + blk.cells.length) new', e, fr, by rw [wput_heap hg, if_pos rfl], by simp only [spl_size, List.length_append, List.length_drop]; omega, ?_, ?_⟩
      · intro i v hi
        dsimp only at hi ⊢
        rw [spl_get _ _ _ _ (by omega)]
        by_cases hlt : i < blk.cells.length - o
        · rw [List.getElem?_append_left (by simp; omega), List.getElem?_drop] at hi
          rw [if_neg (by omega)]
          obtain ⟨v', g1, g2⟩ := hc (o + i) v hi
          exact ⟨v', by rw [show p.off + o + i = p.off + (o + i) by omega]; exact g1, g2.mono hle⟩
        · rw [List.getElem?_append_right (by simp; omega)] at hi
          obtain ⟨v', g1, g2⟩ := hv.get hi
          have hin : i - (List.drop o blk.cells).length < new'.length := (List.getElem?_eq_some_iff.1 g1).1
          simp only [List.length_drop] at hin g1
          rw [if_pos (by omega), show p.off + o + i - (p.off + blk.cells.length) = i - (blk.cells.length - o) by omega]
          exact ⟨v', g1, g2.mono hle⟩
      · intro _
        refine (hf ho).mono ?_
        dsimp only
        simp only [List.length_append, List.length_drop]
        omega
    · split at h
      · cases h
      · rename_i h3 h4
        have hlt := hr.low _ _ h
        have hne : p.blk ≠ p'.blk := hr.inj b b' blk k' p p' (Ne.symm h4) hb ho h hm (hmb b' p' hlt hp')
        exact ((hr.blk b' k' p' h (hmb b' p' hlt hp')).mono hle).at (by rw [wput_heap hg, if_neg hne])
  · intro b1 b2 k1 k2 p1 p2 hne e1 o1 e2 m1 m2
    rw [kp_get] at e1 e2
    split at e1
    · rename_i he
      subst he
      simp only [mput, if_true] at m1
      injection m1 with m1; subst m1
      split at e2
      · rename_i he2; exact absurd he2.symm hne
      · split at e2
        · cases e2
        · rename_i h3 h4
          exact hr.inj b b2 blk k2 p p2 (Ne.symm h4) hb ho e2 hm (hmb _ _ (hr.low _ _ e2) m2)
    · split at e1
      · cases e1
      · rename_i h5 h6
        split at e2
        · rename_i he2
          subst he2
          simp only [mput, if_true] at m2
          injection m2 with m2; subst m2
          exact hr.inj b1 b k1 blk p1 p h6 e1 o1 hb (hmb _ _ (hr.low _ _ e1) m1) hm
        · split at e2
          · cases e2
          · exact hr.inj b1 b2 k1 k2 p1 p2 hne e1 o1 e2 (hmb _ _ (hr.low _ _ e1) m1) (hmb _ _ (hr.low _ _ e2) m2)
  · intro b' k' h
    rw [kp_get] at h
    split at h
    · injection h with h; subst h
      simp only [List.all_append, Bool.and_eq_true]
      refine ⟨?_, h1⟩
      have := hr.one b blk hb
      rw [List.all_eq_true] at this ⊢
      exact fun x hx => this x (List.mem_of_mem_drop hx)
    · split at h
      · cases h
      · exact hr.one b' k' h
  · intro b' k' p' h ho' hp'
    rw [kp_get] at h
    split at h
    · injection h with h; subst h; cases ho'
    · split at h
      · cases h
      · exact hr.froz b' k' p' h ho' (hmb _ _ (hr.low _ _ h) hp')
  · intro c hc' hnc
    rw [wput_heap hg, if_neg (hnc b blk p hb ho hm)]
  · intro b' k' p' h ho' hp' hlt
    rw [kp_get] at h
    split at h
    · rename_i he
      subst he
      simp only [mput, if_true] at hp'
      injection hp' with hp'; subst hp'
      exact ⟨b, blk, p, hb, ho, hm, rfl⟩
    · split at h
      · cases h
      · exact ⟨b', k', p', h, ho', hmb _ _ (hr.low _ _ h) hp', rfl⟩
  · intro b' k' hlt h h2
    rw [kp_get, if_neg (by omega), if_neg (fun he => by subst he; rw [hb] at h; injection h with h; subst h; rw [ho] at h2; cases h2)]
    exact h
  · intro b' k' hlt h h2
    rw [kp_get] at h
    rw [if_neg (by omega)] at h
    split at h
    · cases h
    · exact h
  · intro _ b' p' hp'
    simp only [mput] at hp'
    show b' < H.n + 1
    split at hp'
    · omega
    · have := hl b' p' hp'; omega
  · intro b' k' h1 h
    rw [kp_get] at h
    split at h
    · injection h with h; subst h; rfl
    · split at h
      · cases h
      · have := hr.low _ _ h; omega

theorem app_sound {P : Program} {m : Mp} {H H' : Heap} {w : World} {s s' x x' v : Value} {sz by_ : Nat} {t ty e : TypeId} {ts : Array TypeId} {z : Value} {d2 : TypeDesc} {t2 : TypeId} (hr : HRel m H w) (hl : MLow m H.n)
    (hs : VRel m s s') (hx : VRel m x x') (h : app sz by_ s x H = some (v, H')) (h0 : ts[0]? = some t) (hu : P.underlying t = some (.slice e)) (hsz : szOf P e = some sz) (hby : bytesOf P e = some by_)
    (hz : zeroOf P e = some z) (hzs : z.cells.size = sz) (hb0 : 0 < by_) (hs0 : 0 < sz) (h2 : ts[1]? = some t2) (hu2 : P.underlying t2 = some d2) (hd2 : ∀ k, d2 ≠ .int k) :
    ∃ m' v' w', (Builtin.append_ ts ty #[s', x']).run P w = .ok v' w' ∧ VRel m' v v' ∧ Step m H w m' H' w' := by
  unfold app at h
  split at h
  case h_2 => cases h
  rename_i n cs base len cap hadd
  obtain ⟨hlen, cs', hrel, hcl, hfirst⟩ := addend_sound (P := P) hr hx hadd
  have hcl' : cs'.length = n * sz := by rw [← hrel.1]; exact hcl
  have hfull : ∀ w', w'.heap = w.heap → (Builtin.firstCells sz n x').run P w' = .ok cs'.toArray w' := fun w' hw => by
    have := hfirst n (Nat.le_refl _) w' hw
    rwa [List.take_of_length_le (by omega)] at this
  have hone : cs.all Eng.oneC = true := by
    unfold addend at hadd
    split at hadd
    · split at hadd
      · simp only [Option.some.injEq, Prod.mk.injEq] at hadd; rw [← hadd.2]; rfl
      · cases hadd
    · split at hadd
      · simp only [Option.some.injEq, Prod.mk.injEq] at hadd; rw [← hadd.2]; rfl
      split at hadd
      · rename_i blk hb
        split at hadd
        · simp only [Option.some.injEq, Prod.mk.injEq] at hadd
          rw [← hadd.2, List.all_eq_true]
          have := hr.one _ _ hb
          rw [List.all_eq_true] at this
          exact fun y hy => this y (List.mem_of_mem_drop (List.mem_of_mem_take hy))
        · cases hadd
      · cases hadd
    · split at hadd
      case isFalse => cases hadd
      simp only [Option.some.injEq, Prod.mk.injEq] at hadd
      rw [← hadd.2, List.all_eq_true]
      intro y hy
      obtain ⟨c, _, rfl⟩ := List.mem_map.1 hy
      rfl
    · cases hadd
  split at h
  · rename_i hn
    subst hn
    simp only [Option.some.injEq, Prod.mk.injEq] at h
    obtain ⟨rfl, rfl⟩ := h
    have hcs : cs' = [] := List.eq_nil_of_length_eq_zero (by omega)
    subst hcs
    have hin : ∀ (base' : Option Addr) (cap' : Nat), s' = .slice base' len cap' → len ≤ cap' → (Builtin.append_ ts ty #[s', x']).run P w = .ok s' w := fun base' cap' he hle => by
      rw [he, run_app_in (ty := ty) h0 hu hsz h2 hu2 hd2 hlen (hfull w rfl) (by omega)]
      cases base' <;> simp [storeCells]
    cases base with
    | none =>
      obtain ⟨rfl, rfl, rfl⟩ := hs.slice_nil_inv
      exact ⟨m, _, w, hin _ _ rfl (Nat.le_refl _), hs, Step.refl hr⟩
    | some a =>
      obtain ⟨b, o, sp⟩ := a
      rcases hs.slice_inv with ⟨rfl, rfl, a', rfl⟩ | ⟨p, cap', hp, rfl, g1, g2, _, _⟩
      · exact ⟨m, _, w, hin _ _ rfl (Nat.le_refl _), hs, Step.refl hr⟩
      · exact ⟨m, _, w, hin _ _ rfl (by omega), hs, Step.refl hr⟩
  · rename_i hn
    split at h
    · cases h
    · rename_i hm
      have hm : (len + n) * by_ ≤ mostBytes := by omega
      -- a new row on the other side
      have fresh : ∀ (H : Heap), HRel m H w → MLow m H.n → ∀ (base' : Option Addr) (cap' : Nat) (old old' : List Value), s' = .slice base' len cap' → cap' < len + n → old.length = len * sz → LRel m old old' → old.all Eng.oneC = true →
          (∀ w', w'.heap = w.heap → (Builtin.firstCells sz len (.slice base' len cap')).run P w' = .ok old'.toArray w') →
          ∃ room w1, (Builtin.append_ ts ty #[s', x']).run P w = .ok (.slice (some ⟨w.heap.size, 0, none⟩) (len + n) (len + n + room)) w1 ∧
            Step m H w (mput m H.n ⟨w.heap.size, 0, room⟩) (H.push ⟨old ++ cs, sz, true⟩) w1 := by
        intro H hr hl base' cap' old old' he hlt hol horel hoone hfo
        obtain ⟨nc, hnc, hrun⟩ := run_app_new (ty := ty) (base := base') h0 hu hsz h2 hu2 hd2 hby hb0 hz hlen hfull hfo hlt hm
        refine ⟨nc - (len + n), _, by rw [he, hrun, Nat.add_sub_cancel' hnc], ?_⟩
        have hol' : old'.length = len * sz := by rw [← horel.1]; exact hol
        refine Step.new hr hl (l := old ++ cs) (l' := old' ++ cs') (cs := old'.toArray ++ cs'.toArray ++ Builtin.zeroCells z.cells (nc - (len + n))) (e := e) (fr := (0, 0)) (LRel.append horel hrel)
          (by rw [List.all_append, hoone, hone]; rfl) ?_ ?_ (.inl rfl) ?_ rfl rfl rfl
        · simp only [List.length_append, Array.size_append, List.size_toArray, zeros_size, hzs]
          omega
        · intro i v hi
          have : i < (old' ++ cs').length := (List.getElem?_eq_some_iff.1 hi).1
          rw [Array.getElem?_append_left (by simp at this ⊢; omega)]
          simpa using hi
        · rfl
      have vnew : ∀ {B room : Nat} {m : Mp} {b : Nat}, VRel (mput m b ⟨B, 0, room⟩) (.slice (some ⟨b, 0, none⟩) (len + n) (len + n)) (.slice (some ⟨B, 0, none⟩) (len + n) (len + n + room)) := fun {B room m b} => by
        have := VRel.slc (m := mput m b ⟨B, 0, room⟩) (b := b) (o := 0) (p := ⟨B, 0, room⟩) (len := len + n) (cap := len + n) (cap' := len + n + room) (by simp [mput]) (by omega) (Nat.le_refl _) (Nat.le_refl _)
        simpa using this
      cases base with
      | none =>
        simp only at h
        split at h
        · rename_i hc
          obtain ⟨rfl, rfl⟩ := hc
          simp only [Option.some.injEq, Prod.mk.injEq] at h
          obtain ⟨rfl, rfl⟩ := h
          obtain ⟨_, _, rfl⟩ := hs.slice_nil_inv
          obtain ⟨room, w1, g1, g2⟩ := fresh H hr hl none 0 [] [] rfl (by omega) (by simp) LRel.nil rfl (fun w' _ => by simp [Builtin.firstCells])
          simp only [Nat.zero_add] at g1 vnew
          exact ⟨_, _, w1, g1, vnew, by simpa using g2⟩
        · cases h
      | some a =>
        obtain ⟨b, o, sp⟩ := a
        simp only at h
        split at h
        · cases h
        · rename_i blk hb
          split at h
          · rename_i hsp
            split at h
            · rename_i hc
              obtain ⟨hc1, hc2⟩ := hc
              simp only [Option.some.injEq, Prod.mk.injEq] at h
              obtain ⟨rfl, rfl⟩ := h
              have hco : (cut blk.cells o (len * sz)).all Eng.oneC = true := by
                rw [List.all_eq_true]
                have := hr.one _ _ hb
                rw [List.all_eq_true] at this
                exact fun y hy => this y (List.mem_of_mem_drop (List.mem_of_mem_take hy))
              rcases hs.slice_inv with ⟨rfl, rfl, a', rfl⟩ | ⟨p, cap', hp, rfl, g1, g2, g3, g4⟩
              · obtain ⟨room, w1, g1, g2⟩ := fresh H hr hl (some a') 0 [] [] rfl (by omega) (by simp) LRel.nil rfl (fun w' _ => by simp [Builtin.firstCells, loadCells, loadCellsFrom])
                exact ⟨_, _, w1, g1, vnew, by simpa [cut] using g2⟩
              · obtain ⟨l', k1, k2, k3⟩ := first_slice (P := P) hr hb hp len sz cap' hc2
                have hcap : cap' = cap := by
                  rcases Bool.or_eq_true_iff.1 hsp with hsp | hsp
                  · rcases g4 with g4 | g4
                    · rw [g4] at hsp; cases hsp
                    · exact g4.2
                  · have := hr.froz b blk p hb (by simpa using hsp) hp
                    omega
                obtain ⟨room, w1, j1, j2⟩ := fresh H hr hl _ cap' (cut blk.cells o (len * sz)) l' rfl (by omega) (by simp [cut]; omega) k2 hco k3
                exact ⟨_, _, w1, j1, vnew, j2⟩
            · cases h
          · rename_i hsp
            have hown : blk.own = true := by
              cases ho : blk.own with
              | true => rfl
              | false => exact absurd (by simp [ho]) hsp
            split at h
            · rename_i hc
              obtain ⟨rfl, hc2, hc3⟩ := hc
              simp only [Option.some.injEq, Prod.mk.injEq] at h
              obtain ⟨rfl, rfl⟩ := h
              have hK := Step.kill hr hb hown
              have hdrop : blk.cells.drop o = cut blk.cells o (len * sz) := by
                unfold cut; rw [List.take_of_length_le (by simp; omega)]
              have hco : (cut blk.cells o (len * sz)).all Eng.oneC = true := by
                rw [List.all_eq_true]
                have := hr.one _ _ hb
                rw [List.all_eq_true] at this
                exact fun y hy => this y (List.mem_of_mem_drop (List.mem_of_mem_take hy))
              rcases hs.slice_inv with ⟨rfl, _, a', rfl⟩ | ⟨p, cap', hp, rfl, g1, g2, g3, g4⟩
              · obtain ⟨room, w1, g1, g2⟩ := fresh _ hK.rel hl (some a') 0 [] [] rfl (by omega) (by simp) LRel.nil rfl (fun w' _ => by simp [Builtin.firstCells, loadCells, loadCellsFrom])
                exact ⟨_, _, w1, g1, vnew, hK.trans (by rw [hdrop, show cut blk.cells o (0 * sz) = [] by simp [cut]]; exact g2)⟩
              · by_cases hin : len + n ≤ cap'
                · have hpl : blk.plain = true := by
                    cases hq : blk.plain with
                    | true => rfl
                    | false => have := ((hr.blk b blk p hb hp).none hq).2.1; omega
                  obtain ⟨cs0, e0, fr0, hh, hsz0, hc0, hf0⟩ := (hr.blk b blk p hb hp).plain hpl
                  have hnr : n ≤ p.room := by omega
                  have hnrz : n * sz ≤ p.room * blk.sz := by rw [hc3]; exact Nat.mul_le_mul_right _ hnr
                  have hst := run_storeCells_spl (P := P) (g := p.blk) (o := p.off + blk.cells.length) (e := e0) (fr := fr0) cs' 0 cs0 w hh (by omega) (fun j h1 h2 => (hf0 hown).not (by omega)) (hrel.allOne hone)
                  refine ⟨_, .slice (some ⟨p.blk, p.off + o, none⟩) (len + n) cap', _, ?_, ?_, hc3 ▸ Step.grow hr hl (k := n) hb hown hp hh (by omega) (by rw [hc3]; exact hcl) hnr hrel hone⟩
                  · rw [run_app_in (ty := ty) h0 hu hsz h2 hu2 hd2 hlen (hfull w rfl) hin]
                    simp only [add_plain, show p.off + o + len * sz = p.off + blk.cells.length by omega, hst, Result.andThen, Nat.add_zero]
                  · have := VRel.slc (m := mput m H.n ⟨p.blk, p.off + o, p.room - n⟩) (b := H.n) (o := 0) (p := ⟨p.blk, p.off + o, p.room - n⟩) (len := len + n) (cap := len + n) (cap' := cap') (by simp [mput]) hin (by simp only; omega) (Nat.le_refl _)
                    simpa using this
                · obtain ⟨l', k1, k2, k3⟩ := first_slice (P := P) (o := o) hr hb hp len sz cap' (by omega)
                  obtain ⟨room, w1, j1, j2⟩ := fresh _ hK.rel hl _ cap' (cut blk.cells o (len * sz)) l' rfl (by omega) (by simp [cut]; omega) k2 hco k3
                  exact ⟨_, _, w1, j1, vnew, hK.trans (by rw [hdrop]; exact j2)⟩
            · split at h
              case isFalse => cases h
              rename_i hc
              obtain ⟨hc1, hc2⟩ := hc
              simp only [Option.some.injEq, Prod.mk.injEq] at h
              obtain ⟨rfl, rfl⟩ := h
              rcases hs.slice_inv with ⟨rfl, rfl, a', rfl⟩ | ⟨p, cap', hp, rfl, g1, g2, g3, g4⟩
              · omega
              · have hpl : blk.plain = true := by
                  cases hq : blk.plain with
                  | true => rfl
                  | false =>
                    have h1 := ((hr.blk b blk p hb hp).none hq).1
                    rw [h1] at hc2
                    have h2 : 0 < (len + n) * sz := Nat.mul_pos (by omega) hs0
                    simp only [List.length_nil] at hc2; omega
                obtain ⟨cs0, e0, fr0, hh, hsz0, hc0, hf0⟩ := (hr.blk b blk p hb hp).plain hpl
                have hadd2 : (len + n) * sz = len * sz + n * sz := Nat.add_mul _ _ _
                have hst := run_storeCells_spl (P := P) (g := p.blk) (o := p.off + (o + len * sz)) (e := e0) (fr := fr0) cs' 0 cs0 w hh
                  (by have := Nat.le_trans (Nat.le_add_right _ _) hsz0; omega) (fun j h1 h2 => (hf0 hown).not (by have := Nat.zero_le (p.room * blk.sz); omega)) (hrel.allOne hone)
                refine ⟨m, .slice (some ⟨p.blk, p.off + o, none⟩) (len + n) cap', _, ?_, ?_, Step.write hr hb hown hp hh (by rw [hcl]; omega) hrel hone⟩
                · rw [run_app_in (ty := ty) h0 hu hsz h2 hu2 hd2 hlen (hfull w rfl) (by omega)]
                  simp only [add_plain, show p.off + o + len * sz = p.off + (o + len * sz) by omega, hst, Result.andThen, Nat.add_zero]
                · have hsp' : sp = none := by
                    cases sp with
                    | none => rfl
                    | some x => exact absurd (by simp) hsp
                  rcases g4 with g4 | g4
                  · exact .slc hp g2 g3 hc1
                  · rw [hsp'] at g4; cases g4.1

end Go.Eng
