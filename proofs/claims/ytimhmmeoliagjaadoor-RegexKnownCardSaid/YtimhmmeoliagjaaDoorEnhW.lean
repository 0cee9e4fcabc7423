import Derived.Test.YtimhmmeoliagjaaDoorEnhU
import Derived.Test.YtimhmmeoliagjaaDoorEnhV
import Derived.DataReads
import Derived.Laws.World
import Derived.WideShapes
set_option linter.unusedVariables false
set_option linter.unusedSimpArgs false
namespace Go.Eng
open Go

class Rp (α : Type) where
  sz : Nat
  rep : (Nat → Prop) → Heap → α → List Value → Prop
  bulk : α → Nat
  len : ∀ {R : Nat → Prop} {H : Heap} {x : α} {cs : List Value}, rep R H x cs → cs.length = sz
  keep : ∀ {R : Nat → Prop} {H H' : Heap} {x : α} {cs : List Value}, rep R H x cs → Keep R H H' → rep R H' x cs
  mono : ∀ {R R' : Nat → Prop} {H : Heap} {x : α} {cs : List Value}, rep R H x cs → (∀ b, R b → R' b) → rep R' H x cs
  one : ∀ {R : Nat → Prop} {H : Heap} {x : α} {cs : List Value}, rep R H x cs → cs.all oneC = true
  pos : ∀ x : α, 0 < sz → 0 < bulk x

instance : Rp Bool where
  sz := 1
  rep _ _ x cs := cs = [.bool x]
  bulk _ := 1
  len h := by rw [h]; rfl
  keep h _ := h
  mono h _ := h
  one h := by rw [h]; rfl
  pos _ _ := Nat.one_pos
instance : Rp Int where
  sz := 1
  rep _ _ x cs := cs = [.int .i64 x] ∧ -9223372036854775808 ≤ x ∧ x < 9223372036854775808
  bulk _ := 1
  len h := by rw [h.1]; rfl
  keep h _ := h
  mono h _ := h
  one h := by rw [h.1]; rfl
  pos _ _ := Nat.one_pos
instance : Rp UInt8 where
  sz := 1
  rep _ _ x cs := cs = [.int .u8 (x.toNat : Int)]
  bulk _ := 1
  len h := by rw [h]; rfl
  keep h _ := h
  mono h _ := h
  one h := by rw [h]; rfl
  pos _ _ := Nat.one_pos
instance : Rp UInt32 where
  sz := 1
  rep _ _ x cs := cs = [.int .u32 (x.toNat : Int)]
  bulk _ := 1
  len h := by rw [h]; rfl
  keep h _ := h
  mono h _ := h
  one h := by rw [h]; rfl
  pos _ _ := Nat.one_pos
instance : Rp UInt64 where
  sz := 1
  rep _ _ x cs := cs = [.int .u64 (x.toNat : Int)]
  bulk _ := 1
  len h := by rw [h]; rfl
  keep h _ := h
  mono h _ := h
  one h := by rw [h]; rfl
  pos _ _ := Nat.one_pos
instance : Rp ByteArray where
  sz := 1
  rep _ _ x cs := cs = [.string x]
  bulk x := x.size + 1
  len h := by rw [h]; rfl
  keep h _ := h
  mono h _ := h
  one h := by rw [h]; rfl
  pos _ _ := Nat.succ_pos _
instance : Rp Unit where
  sz := 0
  rep _ _ _ cs := cs = []
  bulk _ := 0
  len h := by rw [h]; rfl
  keep h _ := h
  mono h _ := h
  one h := by rw [h]; rfl
  pos _ h := absurd h (Nat.lt_irrefl _)
instance {α β : Type} [Rp α] [Rp β] : Rp (α × β) where
  sz := Rp.sz α + Rp.sz β
  rep R H x cs := ∃ a b, cs = a ++ b ∧ Rp.rep R H x.1 a ∧ Rp.rep R H x.2 b
  bulk x := Rp.bulk x.1 + Rp.bulk x.2
  len := fun ⟨a, b, h, ha, hb⟩ => by rw [h, List.length_append, Rp.len ha, Rp.len hb]
  keep := fun ⟨a, b, h, ha, hb⟩ hk => ⟨a, b, h, Rp.keep ha hk, Rp.keep hb hk⟩
  mono := fun ⟨a, b, h, ha, hb⟩ hR => ⟨a, b, h, Rp.mono ha hR, Rp.mono hb hR⟩
  one := fun ⟨a, b, h, ha, hb⟩ => by rw [h, List.all_append, Rp.one ha, Rp.one hb]; rfl
  pos x h := by
    rcases Nat.eq_zero_or_pos (Rp.sz α) with h0 | h0
    · have := Rp.pos x.2 (by omega); omega
    · have := Rp.pos x.1 h0; omega
inductive RpL {α : Type} [Rp α] (R : Nat → Prop) (H : Heap) : List α → List Value → Prop where
  | nil : RpL R H [] []
  | cons {x : α} {xs : List α} {c cs : List Value} (h : Rp.rep R H x c) (t : RpL R H xs cs) : RpL R H (x :: xs) (c ++ cs)
section
variable {α : Type} [Rp α] {R R' : Nat → Prop} {H H' : Heap}
theorem RpL.len {xs : List α} {cs : List Value} (h : RpL R H xs cs) : cs.length = xs.length * Rp.sz α := by
  induction h with
  | nil => simp
  | cons h t ih => simp only [List.length_append, List.length_cons, Rp.len h, ih, Nat.add_mul]; omega
theorem RpL.keep {xs : List α} {cs : List Value} (h : RpL R H xs cs) (hk : Keep R H H') : RpL R H' xs cs := by
  induction h with
  | nil => exact .nil
  | cons h t ih => exact .cons (Rp.keep h hk) ih
theorem RpL.mono {xs : List α} {cs : List Value} (h : RpL R H xs cs) (hR : ∀ b, R b → R' b) : RpL R' H xs cs := by
  induction h with
  | nil => exact .nil
  | cons h t ih => exact .cons (Rp.mono h hR) ih
theorem RpL.one {xs : List α} {cs : List Value} (h : RpL R H xs cs) : cs.all oneC = true := by
  induction h with
  | nil => rfl
  | cons h t ih => rw [List.all_append, Rp.one h, ih]; rfl
theorem RpL.append {xs ys : List α} {cs ds : List Value} (h : RpL R H xs cs) (h' : RpL R H ys ds) : RpL R H (xs ++ ys) (cs ++ ds) := by
  induction h with
  | nil => exact h'
  | cons h t ih => rw [List.append_assoc]; exact .cons h ih
theorem RpL.single {x : α} {c : List Value} (h : Rp.rep R H x c) : RpL R H [x] c := by
  have := RpL.cons h (RpL.nil (R := R) (H := H))
  simpa using this
theorem RpL.at {xs : List α} {cs : List Value} (h : RpL R H xs cs) : ∀ {i : Nat} {x : α}, xs[i]? = some x → ∃ c, Rp.rep R H x c ∧ c = cut cs (i * Rp.sz α) (Rp.sz α) := by
  induction h with
  | nil => intro i x hx; simp at hx
  | @cons y ys c cs h t ih =>
    intro i x hx
    cases i with
    | zero =>
      simp only [List.getElem?_cons_zero, Option.some.injEq] at hx
      subst hx
      refine ⟨c, h, ?_⟩
      simp only [cut, Nat.zero_mul, List.drop_zero]
      rw [← Rp.len h, List.take_left]
    | succ i =>
      simp only [List.getElem?_cons_succ] at hx
      obtain ⟨c', h1, h2⟩ := ih hx
      refine ⟨c', h1, ?_⟩
      rw [h2]
      simp only [cut]
      rw [show (i + 1) * Rp.sz α = c.length + i * Rp.sz α by rw [Rp.len h, Nat.succ_mul]; omega, List.drop_append (l₁ := c), List.drop_eq_nil_of_le (as := c) (by omega), Nat.add_sub_cancel_left, List.nil_append]
theorem RpL.drop {xs : List α} {cs : List Value} (h : RpL R H xs cs) : ∀ (i : Nat), RpL R H (xs.drop i) (cs.drop (i * Rp.sz α)) := by
  induction h with
  | nil => intro i; simpa using RpL.nil
  | @cons y ys c cs h t ih =>
    intro i
    cases i with
    | zero => simpa using RpL.cons h t
    | succ i =>
      have := ih i
      simp only [List.drop_succ_cons]
      rw [show (i + 1) * Rp.sz α = c.length + i * Rp.sz α by rw [Rp.len h, Nat.succ_mul]; omega, List.drop_append (l₁ := c), List.drop_eq_nil_of_le (as := c) (by omega), Nat.add_sub_cancel_left, List.nil_append]
      exact this
theorem RpL.take {xs : List α} {cs : List Value} (h : RpL R H xs cs) : ∀ (i : Nat), RpL R H (xs.take i) (cs.take (i * Rp.sz α)) := by
  induction h with
  | nil => intro i; simpa using RpL.nil
  | @cons y ys c cs h t ih =>
    intro i
    cases i with
    | zero => simpa using RpL.nil
    | succ i =>
      simp only [List.take_succ_cons]
      rw [show (i + 1) * Rp.sz α = c.length + i * Rp.sz α by rw [Rp.len h, Nat.succ_mul]; omega, List.take_append (l₁ := c), List.take_of_length_le (l := c) (by omega), Nat.add_sub_cancel_left]
      exact .cons h (ih i)
theorem RpL.cut {xs : List α} {cs : List Value} (h : RpL R H xs cs) (i k : Nat) : RpL R H ((xs.drop i).take k) (Eng.cut cs (i * Rp.sz α) (k * Rp.sz α)) := (h.drop i).take k
end

def Sli {α : Type} [Rp α] (R : Nat → Prop) (H : Heap) (xs : List α) (v : Value) : Prop := ∃ cs, Sl R H (Rp.sz α) v xs.length cs ∧ RpL R H xs cs
section
variable {α : Type} [Rp α] {R R' : Nat → Prop} {H H' : Heap} {xs : List α} {v : Value}
theorem Sli.keep (h : Sli R H xs v) (hk : Keep R H H') : Sli R H' xs v := by
  obtain ⟨cs, h1, h2⟩ := h
  exact ⟨cs, h1.keep hk, h2.keep hk⟩
theorem Sli.mono (h : Sli R H xs v) (hR : ∀ b, R b → R' b) : Sli R' H xs v := by
  obtain ⟨cs, h1, h2⟩ := h
  exact ⟨cs, h1.mono hR, h2.mono hR⟩
theorem Sli.lenS (h : Sli R H xs v) : lenS v = some (.int .i64 xs.length) := by
  obtain ⟨cs, h1, h2⟩ := h
  exact h1.lenS
theorem Sl.one {R : Nat → Prop} {H : Heap} {sz n : Nat} {v : Value} {cs : List Value} (h : Sl R H sz v n cs) : oneC v = true := by
  rcases h with ⟨rfl, _⟩ | ⟨b, o, sp, cap, rfl, _⟩ | ⟨b, o, sp, cap, blk, rfl, _⟩ <;> rfl
theorem Sli.at (h : Sli R H xs v) {i : Nat} {x : α} (hx : xs[i]? = some x) : ∃ b o c, iAddrS (Rp.sz α) v (.int .i64 i) = some (.pointer (some ⟨b, o, none⟩)) ∧ R b ∧ Rp.rep R H x c ∧
    (∀ (k : Nat) y, c[k]? = some y → ldC (.pointer (some ⟨b, o + k, none⟩)) H = some (y, H)) ∧ ldA (Rp.sz α) (.pointer (some ⟨b, o, none⟩)) H = some (.agg c.toArray, H) := by
  obtain ⟨cs, h1, h2⟩ := h
  obtain ⟨c, c1, c2⟩ := h2.at hx
  have hi : i < xs.length := (List.getElem?_eq_some_iff.1 hx).1
  obtain ⟨b, o, g1, g2, g3, g4⟩ := h1.atN hi
  refine ⟨b, o, c, g1, g2, c1, fun k y hy => ?_, by rw [c2]; exact g4⟩
  have hk : k < Rp.sz α := by
    have := (List.getElem?_eq_some_iff.1 hy).1
    rw [Rp.len c1] at this; exact this
  refine g3 k y hk ?_
  rw [c2, cut, List.getElem?_take, if_pos hk, List.getElem?_drop] at hy
  exact hy
end
instance {α : Type} [Rp α] : Rp (List α) where
  sz := 1
  rep R H xs cs := ∃ v, cs = [v] ∧ Sli R H xs v
  bulk xs := (xs.map Rp.bulk).sum + 1
  len := fun ⟨v, h, _⟩ => by rw [h]; rfl
  keep := fun ⟨v, h, hs⟩ hk => ⟨v, h, hs.keep hk⟩
  mono := fun ⟨v, h, hs⟩ hR => ⟨v, h, hs.mono hR⟩
  one := fun ⟨v, h, cs, hs, _⟩ => by rw [h]; simp [hs.one]
  pos _ _ := Nat.succ_pos _
structure Arr (n : Nat) (α : Type) where
  l : List α
  h : l.length = n
instance {n : Nat} {α : Type} [Rp α] : Rp (Arr n α) where
  sz := n * Rp.sz α
  rep R H xs cs := RpL R H xs.l cs
  bulk xs := (xs.l.map Rp.bulk).sum
  len h := by rw [h.len, Arr.h]
  keep h hk := h.keep hk
  mono h hR := h.mono hR
  one h := h.one
  pos x h := by
    obtain ⟨l, hl⟩ := x
    cases l with
    | nil => subst hl; simp at h
    | cons a l =>
      have := Rp.pos a (Nat.pos_of_mul_pos_left h)
      simp only [List.map_cons, List.sum_cons]; omega

mutual
def ebulk {H : Type} : DataW H → Nat
  | .lit (.string bytes) => bytes.length + 1
  | .lit _ => 1
  | .nil => 1
  | .ptr d => ebulk d + 1
  | .slice elems spare => ebulkAll elems + ebulkAll spare + 1
  | .agg parts => ebulkAll parts + 1
  | .iface _ d => ebulk d + 1
  | .map entries => ebulkEntries entries + 1
  | .held _ => 1
def ebulkAll {H : Type} : List (DataW H) → Nat
  | [] => 0
  | d :: r => ebulk d + ebulkAll r
def ebulkEntries {H : Type} : List (Lit × DataW H) → Nat
  | [] => 0
  | (_, d) :: r => ebulk d + 1 + ebulkEntries r
end

def Shows {α : Type} [Rp α] (w : World) (W : List Win) (cs : List Value) (bk : Nat) : Prop :=
  ∃ (V : List Win) (x : α) (acs : List Value), WinOk w (W ++ V) ∧ LRel (mw (W ++ V)) acs cs ∧ Rp.rep (all (hw (W ++ V))) (hw (W ++ V)) x acs ∧ Rp.bulk x ≤ bk
def Opens (P : Program) (t : TypeId) (α : Type) [Rp α] : Prop :=
  P.cellsOf t = Rp.sz α ∧ ∀ {H : Type} (enc : TypeId × Value → H) (w : World) (fuel : Nat) (cs : List Value) (d : DataW H) (ps : List MemPlace), DataW.trod enc P w 0 (fun _ => true) true fuel t cs = some (d, ps) →
    ∀ W, WinOk w W → Shows (α := α) w W cs (ebulk d)

theorem hw_keep (W V : List Win) : Keep (all (hw W)) (hw W) (hw (W ++ V)) := ⟨by simp [hw], fun b hb => by
  simp only [hw]
  rw [List.getElem?_append_left hb]⟩
theorem all_more {W V : List Win} : ∀ b, all (hw W) b → all (hw (W ++ V)) b := fun b hb => by
  simp only [all, hw, List.length_append] at hb ⊢
  omega
theorem rep_more {α : Type} [Rp α] {W : List Win} (V : List Win) {x : α} {cs : List Value} (h : Rp.rep (all (hw W)) (hw W) x cs) : Rp.rep (all (hw (W ++ V))) (hw (W ++ V)) x cs := Rp.mono (Rp.keep h (hw_keep W V)) all_more

theorem int_inv {P : Program} {t : TypeId} {k : IntKind} {H : Type} {enc : TypeId × Value → H} {w : World} {fuel : Nat} {cs : List Value} {d : DataW H} {ps : List MemPlace} (ht : P.underlying t = some (.int k))
    (h : DataW.trod enc P w 0 (fun _ => true) true fuel t cs = some (d, ps)) : ∃ n, cs = [.int k n] ∧ d = .lit (.int k n) ∧ (Lit.int k n).wf = true := by
  cases fuel with
  | zero => cases h
  | succ m =>
    rcases cs with _ | ⟨c, _ | ⟨c', l⟩⟩
    · simp [DataW.trod, ht] at h
    · cases c <;> first | (simp [DataW.trod, ht] at h; done) | skip
      rename_i k' n
      simp only [DataW.trod, ht] at h
      split at h
      · rename_i hh
        obtain ⟨rfl, hwf⟩ := hh
        simp only [Option.some.injEq, Prod.mk.injEq] at h
        obtain ⟨rfl, rfl⟩ := h
        exact ⟨n, rfl, rfl, hwf⟩
      · cases h
    · simp [DataW.trod, ht] at h
theorem WinOk.more {w : World} {W V U : List Win} (h : WinOk w (W ++ V ++ U)) : WinOk w (W ++ (V ++ U)) := by rw [← List.append_assoc]; exact h
theorem cell_heap {w : World} {a : Addr} {v : Value} (h : w.cell? a = some v) : a.spot = none ∧ ∃ cs e fr, w.heap[a.block]? = some (.cells cs e fr) ∧ cs[a.off]? = some v := by
  refine ⟨World.cell?_spot h, ?_⟩
  unfold World.cell? at h
  split at h
  · rename_i cs e fr hh
    split at h
    · cases h
    · exact ⟨cs, e, fr, hh, h⟩
  · cases h
def OpensF (P : Program) (fs : List Field) (off : Nat) (α : Type) [Rp α] : Prop :=
  ∀ {H : Type} (enc : TypeId × Value → H) (w : World) (fuel : Nat) (cs : List Value) (xs : List (DataW H × List MemPlace)), fs.mapM (fun f => DataW.trod enc P w 0 (fun _ => true) true fuel f.type ((cs.drop f.offset).take (P.cellsOf f.type))) = some xs →
    cs.length = off + Rp.sz α → ∀ W, WinOk w W → Shows (α := α) w W (cs.drop off) (ebulkAll (xs.map (·.1)))
theorem OpensF.nil {P : Program} {off : Nat} : OpensF P [] off Unit := fun enc w fuel cs xs h hl W hW => by
  simp only [List.mapM_nil, Option.pure_def, Option.some.injEq] at h
  subst h
  rw [List.drop_eq_nil_of_le (by simp [Rp.sz] at hl; omega)]
  exact ⟨[], (), [], by simpa using hW, LRel.nil, rfl, by simp [Rp.bulk]⟩
theorem OpensF.cons {P : Program} {f : Field} {fs : List Field} {off : Nat} {α β : Type} [Rp α] [Rp β] (hf : f.offset = off) (h1 : Opens P f.type α) (h2 : OpensF P fs (off + Rp.sz α) β) : OpensF P (f :: fs) off (α × β) := fun {H} enc w fuel cs xs h hl W hW => by
  simp only [List.mapM_cons, Option.bind_eq_bind, Option.bind_eq_some_iff, Option.pure_def, Option.some.injEq] at h
  obtain ⟨y, hy, ys, hys, rfl⟩ := h
  have hl' : cs.length = off + Rp.sz α + Rp.sz β := by simp only [Rp.sz] at hl ⊢; omega
  obtain ⟨V, x, acs, g1, g2, g3, g4⟩ := h1.2 enc w fuel _ y.1 y.2 hy W hW
  obtain ⟨V', x', acs', k1, k2, k3, k4⟩ := h2 enc w fuel cs ys hys hl' (W ++ V) g1
  refine ⟨V ++ V', (x, x'), acs ++ acs', k1.more, ?_, ?_, ?_⟩
  · have e : cs.drop off = (cs.drop f.offset).take (P.cellsOf f.type) ++ cs.drop (off + Rp.sz α) := by
      rw [hf, h1.1, ← List.drop_drop, List.take_append_drop]
    rw [e, ← List.append_assoc]
    exact (g2.mono (mw_more _ _)).append k2
  · rw [← List.append_assoc]
    exact ⟨acs, acs', rfl, rep_more V' g3, k3⟩
  · simp only [Rp.bulk, List.map_cons, ebulkAll]
    omega
end Go.Eng
