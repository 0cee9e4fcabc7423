import Derived.Test.YtimhmmeoliagjaaDoorEnhU
import Derived.Test.YtimhmmeoliagjaaDoorEnhV
import Derived.DataReads
import Derived.Laws.World
import Derived.WideShapes
set_option linter.unusedVariables false
set_option linter.unusedSimpArgs false
namespace Go.Eng
open Go

class Rp (α : Type) where
 sz : Nat
 rep : (Nat → Prop) → Heap → α → List Value → Prop
 bulk : α → Nat
 len : ∀ {R : Nat → Prop} {H : Heap} {x : α} {cs : List Value}, rep R H x cs → cs.length = sz
 keep : ∀ {R : Nat → Prop} {H H' : Heap} {x : α} {cs : List Value}, rep R H x cs → Keep R H H' → rep R H' x cs
 mono : ∀ {R R' : Nat → Prop} {H : Heap} {x : α} {cs : List Value}, rep R H x cs → (∀ b, R b → R' b) → rep R' H x cs
 one : ∀ {R : Nat → Prop} {H : Heap} {x : α} {cs : List Value}, rep R H x cs → cs.all oneC = true
 pos : ∀ x : α, 0 < sz → 0 < bulk x

instance : Rp Bool where
 sz := 1
 rep _ _ x cs := cs = [.bool x]
 bulk _ := 1
 len h := by rw [h]; rfl
 keep h _ := h
 mono h _ := h
 one h := by rw [h]; rfl
 pos _ _ := Nat.one_pos
instance : Rp Int where
 sz := 1
 rep _ _ x cs := cs = [.int .i64 x] ∧ -9223372036854775808 ≤ x ∧ x < 9223372036854775808
 bulk _ := 1
 len h := by rw [h.1]; rfl
 keep h _ := h
 mono h _ := h
 one h := by rw [h.1]; rfl
 pos _ _ := Nat.one_pos
instance : Rp UInt8 where
 sz := 1
 rep _ _ x cs := cs = [.int .u8 (x.toNat : Int)]
 bulk _ := 1
 len h := by rw [h]; rfl
 keep h _ := h
 mono h _ := h
 one h := by rw [h]; rfl
 pos _ _ := Nat.one_pos
instance : Rp UInt32 where
 sz := 1
 rep _ _ x cs := cs = [.int .u32 (x.toNat : Int)]
 bulk _ := 1
 len h := by rw [h]; rfl
 keep h _ := h
 mono h _ := h
 one h := by rw [h]; rfl
 pos _ _ := Nat.one_pos
instance : Rp UInt64 where
 sz := 1
 rep _ _ x cs := cs = [.int .u64 (x.toNat : Int)]
 bulk _ := 1
 len h := by rw [h]; rfl
 keep h _ := h
 mono h _ := h
 one h := by rw [h]; rfl
 pos _ _ := Nat.one_pos
instance : Rp ByteArray where
 sz := 1
 rep _ _ x cs := cs = [.string x]
 bulk x := x.size + 1
 len h := by rw [h]; rfl
 keep h _ := h
 mono h _ := h
 one h := by rw [h]; rfl
 pos _ _ := Nat.succ_pos _
instance : Rp Unit where
 sz := 0
 rep _ _ _ cs := cs = []
 bulk _ := 0
 len h := by rw [h]; rfl
 keep h _ := h
 mono h _ := h
 one h := by rw [h]; rfl
 pos _ h := absurd h (Nat.lt_irrefl _)
instance {α β : Type} [Rp α] [Rp β] : Rp (α × β) where
 sz := Rp.sz α + Rp.sz β
 rep R H x cs := ∃ a b, cs = a ++ b ∧ Rp.rep R H x.1 a ∧ Rp.rep R H x.2 b
 bulk x := Rp.bulk x.1 + Rp.bulk x.2
 len := fun ⟨a, b, h, ha, hb⟩ => by rw [h, List.length_append, Rp.len ha, Rp.len hb]
 keep := fun ⟨a, b, h, ha, hb⟩ hk => ⟨a, b, h, Rp.keep ha hk, Rp.keep hb hk⟩
 mono := fun ⟨a, b, h, ha, hb⟩ hR => ⟨a, b, h, Rp.mono ha hR, Rp.mono hb hR⟩
 one := fun ⟨a, b, h, ha, hb⟩ => by rw [h, List.all_append, Rp.one ha, Rp.one hb]; rfl
 pos x h := by
  rcases Nat.eq_zero_or_pos (Rp.sz α) with h0 | h0
  ·have := Rp.pos x.2 (by omega); omega
  ·have := Rp.pos x.1 h0; omega
inductive RpL {α : Type} [Rp α] (R : Nat → Prop) (H : Heap) : List α → List Value → Prop where
 | nil : RpL R H [] []
 | cons {x : α} {xs : List α} {c cs : List Value} (h : Rp.rep R H x c) (t : RpL R H xs cs) : RpL R H (x :: xs) (c ++ cs)
section
variable {α : Type} [Rp α] {R R' : Nat → Prop} {H H' : Heap}
theorem RpL.len {xs : List α} {cs : List Value} (h : RpL R H xs cs) : cs.length = xs.length * Rp.sz α := by
 induction h with
 | nil => simp
 | cons h t ih => simp only [List.length_append, List.length_cons, Rp.len h, ih, Nat.add_mul]; omega
theorem RpL.keep {xs : List α} {cs : List Value} (h : RpL R H xs cs) (hk : Keep R H H') : RpL R H' xs cs := by
 induction h with
 | nil => exact .nil
 | cons h t ih => exact .cons (Rp.keep h hk) ih
theorem RpL.mono {xs : List α} {cs : List Value} (h : RpL R H xs cs) (hR : ∀ b, R b → R' b) : RpL R' H xs cs := by
 induction h with
 | nil => exact .nil
 | cons h t ih => exact .cons (Rp.mono h hR) ih
theorem RpL.one {xs : List α} {cs : List Value} (h : RpL R H xs cs) : cs.all oneC = true := by
 induction h with
 | nil => rfl
 | cons h t ih => rw [List.all_append, Rp.one h, ih]; rfl
theorem RpL.append {xs ys : List α} {cs ds : List Value} (h : RpL R H xs cs) (h' : RpL R H ys ds) : RpL R H (xs ++ ys) (cs ++ ds) := by
 induction h with
 | nil => exact h'
 | cons h t ih => rw [List.append_assoc]; exact .cons h ih
theorem RpL.single {x : α} {c : List Value} (h : Rp.rep R H x c) : RpL R H [x] c := by
 have := RpL.cons h (RpL.nil (R := R) (H := H))
 simpa using this
theorem RpL.at {xs : List α} {cs : List Value} (h : RpL R H xs cs) : ∀ {i : Nat} {x : α}, xs[i]? = some x → ∃ c, Rp.rep R H x c ∧ c = cut cs (i * Rp.sz α) (Rp.sz α) := by
 induction h with
 | nil => intro i x hx; simp at hx
 | @cons y ys c cs h t ih =>
  intro i x hx
  cases i with
  | zero =>
   simp only [List.getElem?_cons_zero, Option.some.injEq] at hx
   subst hx
   refine ⟨c, h, ?_⟩
   simp only [cut, Nat.zero_mul, List.drop_zero]
   rw [← Rp.len h, List.take_left]
  | succ i =>
   simp only [List.getElem?_cons_succ] at hx
   obtain ⟨c', h1, h2⟩ := ih hx
   refine ⟨c', h1, ?_⟩
   rw [h2]
   simp only [cut]
   rw [show (i + 1) * Rp.sz α = c.length + i * Rp.sz α by rw [Rp.len h, Nat.succ_mul]; omega, List.drop_append (l₁ := c), List.drop_eq_nil_of_le (as := c) (by omega), Nat.add_sub_cancel_left, List.nil_append]
theorem RpL.drop {xs : List α} {cs : List Value} (h : RpL R H xs cs) : ∀ (i : Nat), RpL R H (xs.drop i) (cs.drop (i * Rp.sz α)) := by
 induction h with
 | nil => intro i; simpa using RpL.nil
 | @cons y ys c cs h t ih =>
  intro i
  cases i with
  | zero => simpa using RpL.cons h t
  | succ i =>
   have := ih i
   simp only [List.drop_succ_cons]
   rw [show (i + 1) * Rp.sz α = c.length + i * Rp.sz α by rw [Rp.len h, Nat.succ_mul]; omega, List.drop_append (l₁ := c), List.drop_eq_nil_of_le (as := c) (by omega), Nat.add_sub_cancel_left, List.nil_append]
   exact this
theorem RpL.take {xs : List α} {cs : List Value} (h : RpL R H xs cs) : ∀ (i : Nat), RpL R H (xs.take i) (cs.take (i * Rp.sz α)) := by
 induction h with
 | nil => intro i; simpa using RpL.nil
 | @cons y ys c cs h t ih =>
  intro i
  cases i with
  | zero => simpa using RpL.nil
  | succ i =>
   simp only [List.take_succ_cons]
   rw [show (i + 1) * Rp.sz α = c.length + i * Rp.sz α by rw [Rp.len h, Nat.succ_mul]; omega, List.take_append (l₁ := c), List.take_of_length_le (l := c) (by omega), Nat.add_sub_cancel_left]
   exact .cons h (ih i)
theorem RpL.cut {xs : List α} {cs : List Value} (h : RpL R H xs cs) (i k : Nat) : RpL R H ((xs.drop i).take k) (Eng.cut cs (i * Rp.sz α) (k * Rp.sz α)) := (h.drop i).take k
end

def Sli {α : Type} [Rp α] (R : Nat → Prop) (H : Heap) (xs : List α) (v : Value) : Prop := ∃ cs, Sl R H (Rp.sz α) v xs.length cs ∧ RpL R H xs cs
section
variable {α : Type} [Rp α] {R R' : Nat → Prop} {H H' : Heap} {xs : List α} {v : Value}
theorem Sli.keep (h : Sli R H xs v) (hk : Keep R H H') : Sli R H' xs v := by
 obtain ⟨cs, h1, h2⟩ := h
 exact ⟨cs, h1.keep hk, h2.keep hk⟩
theorem Sli.mono (h : Sli R H xs v) (hR : ∀ b, R b → R' b) : Sli R' H xs v := by
 obtain ⟨cs, h1, h2⟩ := h
 exact ⟨cs, h1.mono hR, h2.mono hR⟩
theorem Sli.lenS (h : Sli R H xs v) : lenS v = some (.int .i64 xs.length) := by
 obtain ⟨cs, h1, h2⟩ := h
 exact h1.lenS
theorem Sl.one {R : Nat → Prop} {H : Heap} {sz n : Nat} {v : Value} {cs : List Value} (h : Sl R H sz v n cs) : oneC v = true := by
 rcases h with ⟨rfl, _⟩ | ⟨b, o, sp, cap, rfl, _⟩ | ⟨b, o, sp, cap, blk, rfl, _⟩ <;> rfl
theorem Sli.at (h : Sli R H xs v) {i : Nat} {x : α} (hx : xs[i]? = some x) : ∃ b o c, iAddrS (Rp.sz α) v (.int .i64 i) = some (.pointer (some ⟨b, o, none⟩)) ∧ R b ∧ Rp.rep R H x c ∧
  (∀ (k : Nat) y, c[k]? = some y → ldC (.pointer (some ⟨b, o + k, none⟩)) H = some (y, H)) ∧ ldA (Rp.sz α) (.pointer (some ⟨b, o, none⟩)) H = some (.agg c.toArray, H) := by
 obtain ⟨cs, h1, h2⟩ := h
 obtain ⟨c, c1, c2⟩ := h2.at hx
 have hi : i < xs.length := (List.getElem?_eq_some_iff.1 hx).1
 obtain ⟨b, o, g1, g2, g3, g4⟩ := h1.atN hi
 refine ⟨b, o, c, g1, g2, c1, fun k y hy => ?_, by rw [c2]; exact g4⟩
 have hk : k < Rp.sz α := by
  have := (List.getElem?_eq_some_iff.1 hy).1
  rw [Rp.len c1] at this; exact this
 refine g3 k y hk ?_
 rw [c2, cut, List.getElem?_take, if_pos hk, List.getElem?_drop] at hy
 exact hy
end
instance {α : Type} [Rp α] : Rp (List α) where
 sz := 1
 rep R H xs cs := ∃ v, cs = [v] ∧ Sli R H xs v
 bulk xs := (xs.map Rp.bulk).sum + 1
 len := fun ⟨v, h, _⟩ => by rw [h]; rfl
 keep := fun ⟨v, h, hs⟩ hk => ⟨v, h, hs.keep hk⟩
 mono := fun ⟨v, h, hs⟩ hR => ⟨v, h, hs.mono hR⟩
 one := fun ⟨v, h, cs, hs, _⟩ => by rw [h]; simp [hs.one]
 pos _ _ := Nat.succ_pos _
structure Arr (n : Nat) (α : Type) where
 l : List α
 h : l.length = n
instance {n : Nat} {α : Type} [Rp α] : Rp (Arr n α) where
 sz := n * Rp.sz α
 rep R H xs cs := RpL R H xs.l cs
 bulk xs := (xs.l.map Rp.bulk).sum
 len h := by rw [h.len, Arr.h]
 keep h hk := h.keep hk
 mono h hR := h.mono hR
 one h := h.one
 pos x h := by
  obtain ⟨l, hl⟩ := x
  cases l with
  | nil => subst hl; simp at h
  | cons a l =>
   have := Rp.pos a (Nat.pos_of_mul_pos_left h)
   simp only [List.map_cons, List.sum_cons]; omega

mutual
def ebulk {H : Type} : DataW H → Nat
 | .lit (.string bytes) => bytes.length + 1
 | .lit _ => 1
 | .nil => 1
 | .ptr d => ebulk d + 1
 | .slice elems spare => ebulkAll elems + ebulkAll spare + 1
 | .agg parts => ebulkAll parts + 1
 | .iface _ d => ebulk d + 1
 | .map entries => ebulkEntries entries + 1
 | .held _ => 1
def ebulkAll {H : Type} : List (DataW H) → Nat
 | [] => 0
 | d :: r => ebulk d + ebulkAll r
def ebulkEntries {H : Type} : List (Lit × DataW H) → Nat
 | [] => 0
 | (_, d) :: r => ebulk d + 1 + ebulkEntries r
end

def Shows {α : Type} [Rp α] (w : World) (W : List Win) (cs : List Value) (bk : Nat) : Prop :=
 ∃ (V : List Win) (x : α) (acs : List Value), WinOk w (W ++ V) ∧ LRel (mw (W ++ V)) acs cs ∧ Rp.rep (all (hw (W ++ V))) (hw (W ++ V)) x acs ∧ Rp.bulk x ≤ bk
def Opens (P : Program) (t : TypeId) (α : Type) [Rp α] : Prop :=
 P.cellsOf t = Rp.sz α ∧ ∀ {H : Type} (enc : TypeId × Value → H) (w : World) (fuel : Nat) (cs : List Value) (d : DataW H) (ps : List MemPlace), DataW.trod enc P w 0 (fun _ => true) true fuel t cs = some (d, ps) →
  ∀ W, WinOk w W → Shows (α := α) w W cs (ebulk d)

theorem hw_keep (W V : List Win) : Keep (all (hw W)) (hw W) (hw (W ++ V)) := ⟨by simp [hw], fun b hb => by
 simp only [hw]
 rw [List.getElem?_append_left hb]⟩
theorem all_more {W V : List Win} : ∀ b, all (hw W) b → all (hw (W ++ V)) b := fun b hb => by
 simp only [all, hw, List.length_append] at hb ⊢
 omega
theorem rep_more {α : Type} [Rp α] {W : List Win} (V : List Win) {x : α} {cs : List Value} (h : Rp.rep (all (hw W)) (hw W) x cs) : Rp.rep (all (hw (W ++ V))) (hw (W ++ V)) x cs := Rp.mono (Rp.keep h (hw_keep W V)) all_more

theorem lengths {α : Type} [Rp α] (h : 0 < Rp.sz α) (xs : List α) : xs.length ≤ (xs.map Rp.bulk).sum := by
 induction xs with
 | nil => simp
 | cons x xs ih => have := Rp.pos x h; simp only [List.map_cons, List.sum_cons, List.length_cons]; omega

theorem shows_one {α : Type} [Rp α] {w : World} {W : List Win} (hW : WinOk w W) {x : α} {v : Value} {bk : Nat} (hf : flat1 v = true) (hr : ∀ R H, Rp.rep R H x [v]) (hb : Rp.bulk x ≤ bk) : Shows (α := α) w W [v] bk :=
 ⟨[], x, [v], by simpa using hW, LRel.cons (.flat hf) .nil, hr _ _, hb⟩

theorem int_inv {P : Program} {t : TypeId} {k : IntKind} {H : Type} {enc : TypeId × Value → H} {w : World} {fuel : Nat} {cs : List Value} {d : DataW H} {ps : List MemPlace} (ht : P.underlying t = some (.int k))
  (h : DataW.trod enc P w 0 (fun _ => true) true fuel t cs = some (d, ps)) : ∃ n, cs = [.int k n] ∧ d = .lit (.int k n) ∧ (Lit.int k n).wf = true := by
 cases fuel with
 | zero => cases h
 | succ m =>
  rcases cs with _ | ⟨c, _ | ⟨c', l⟩⟩
  ·simp [DataW.trod, ht] at h
  ·cases c <;> first | (simp [DataW.trod, ht] at h; done) | skip
   rename_i k' n
   simp only [DataW.trod, ht] at h
   split at h
   ·rename_i hh
    obtain ⟨rfl, hwf⟩ := hh
    simp only [Option.some.injEq, Prod.mk.injEq] at h
    obtain ⟨rfl, rfl⟩ := h
    exact ⟨n, rfl, rfl, hwf⟩
   ·cases h
  ·simp [DataW.trod, ht] at h
theorem opens_int {P : Program} {t : TypeId} (ht : P.underlying t = some (.int .i64)) (hc : P.cellsOf t = 1) : Opens P t Int := by
 refine ⟨hc, fun enc w fuel cs d ps h W hW => ?_⟩
 obtain ⟨n, rfl, rfl, hwf⟩ := int_inv ht h
 refine shows_one hW rfl (fun _ _ => ⟨rfl, ?_⟩) (by simp [Rp.bulk, ebulk])
 simp [Lit.wf, IntKind.min, IntKind.max, IntKind.bits, IntKind.signed] at hwf
 omega
theorem opens_u64 {P : Program} {t : TypeId} (ht : P.underlying t = some (.int .u64)) (hc : P.cellsOf t = 1) : Opens P t UInt64 := by
 refine ⟨hc, fun enc w fuel cs d ps h W hW => ?_⟩
 obtain ⟨n, rfl, rfl, hwf⟩ := int_inv ht h
 simp [Lit.wf, IntKind.min, IntKind.max, IntKind.bits, IntKind.signed] at hwf
 refine shows_one (x := UInt64.ofNat n.toNat) hW rfl (fun _ _ => ?_) (by simp [Rp.bulk, ebulk])
 show [Value.int .u64 n] = [Value.int .u64 _]
 congr 2
 simp only [UInt64.toNat_ofNat']
 omega
theorem WinOk.more {w : World} {W V U : List Win} (h : WinOk w (W ++ V ++ U)) : WinOk w (W ++ (V ++ U)) := by rw [← List.append_assoc]; exact h
theorem opens_many {P : Program} {e : TypeId} {α : Type} [Rp α] (ho : Opens P e α) {H : Type} (enc : TypeId × Value → H) (w : World) (fuel : Nat) : ∀ (L : List (List Value × DataW H × List MemPlace)), (∀ y ∈ L, DataW.trod enc P w 0 (fun _ => true) true fuel e y.1 = some y.2) → ∀ W, WinOk w W →
  ∃ (V : List Win) (xs : List α) (acs : List Value), WinOk w (W ++ V) ∧ LRel (mw (W ++ V)) acs (L.flatMap (·.1)) ∧ RpL (all (hw (W ++ V))) (hw (W ++ V)) xs acs ∧ xs.length = L.length ∧ (xs.map Rp.bulk).sum ≤ ebulkAll (L.map (·.2.1))
 | [], _, W, hW => ⟨[], [], [], by simpa using hW, LRel.nil, .nil, rfl, by simp⟩
 | y :: L, hL, W, hW => by
  obtain ⟨V, x, acs, h1, h2, h3, h4⟩ := ho.2 enc w fuel y.1 y.2.1 y.2.2 (hL y (by simp)) W hW
  obtain ⟨V', xs, acs', g1, g2, g3, g4, g5⟩ := opens_many ho enc w fuel L (fun z hz => hL z (by simp [hz])) (W ++ V) h1
  refine ⟨V ++ V', x :: xs, acs ++ acs', g1.more, ?_, ?_, by simp [g4], ?_⟩
  ·rw [List.flatMap_cons, ← List.append_assoc]
   exact (h2.mono (mw_more _ _)).append g2
  ·rw [← List.append_assoc]
   exact .cons (rep_more V' h3) g3
  ·simp only [List.map_cons, List.sum_cons, ebulkAll]
   omega
theorem mapM_bind_some {A B C : Type} {f : A → Option B} {g : B → Option C} : ∀ (is : List A) (r : List C), is.mapM (fun i => (f i).bind g) = some r → ∃ L : List (B × C), L.map (·.2) = r ∧ L.map (fun y => some y.1) = is.map f ∧ ∀ y ∈ L, g y.1 = some y.2
 | [], r, h => by simp at h; subst h; exact ⟨[], rfl, rfl, by simp⟩
 | i :: is, r, h => by
  simp only [List.mapM_cons, Option.bind_eq_bind, Option.bind_eq_some_iff] at h
  obtain ⟨c, ⟨b, hb, hc⟩, cs, hcs, hr⟩ := h
  simp only [Option.pure_def, Option.some.injEq] at hr
  subst hr
  obtain ⟨L, h1, h2, h3⟩ := mapM_bind_some is cs hcs
  exact ⟨(b, c) :: L, by simp [h1], by simp [h2, hb], by simpa [hc] using h3⟩
theorem cell_heap {w : World} {a : Addr} {v : Value} (h : w.cell? a = some v) : a.spot = none ∧ ∃ cs e fr, w.heap[a.block]? = some (.cells cs e fr) ∧ cs[a.off]? = some v := by
 refine ⟨World.cell?_spot h, ?_⟩
 unfold World.cell? at h
 split at h
 ·rename_i cs e fr hh
  split at h
  ·cases h
  ·exact ⟨cs, e, fr, hh, h⟩
 ·cases h
theorem add_off {a : Addr} (i : Nat) : (a.add i).block = a.block ∧ (a.add i).off = a.off + i := by
 unfold Addr.add
 split
 ·rename_i h; subst h; exact ⟨rfl, rfl⟩
 ·exact ⟨rfl, rfl⟩

theorem flat_get {L : List (List Value)} {s : Nat} (h : ∀ l ∈ L, l.length = s) : ∀ {j : Nat} {v : Value}, (L.flatMap id)[j]? = some v → ∃ i k l, L[i]? = some l ∧ l[k]? = some v ∧ j = i * s + k ∧ k < s := by
 induction L with
 | nil => intro j v hv; simp at hv
 | cons l L ih =>
  intro j v hv
  rw [List.flatMap_cons] at hv
  have hl := h l (by simp)
  rcases Nat.lt_or_ge j s with hj | hj
  ·rw [List.getElem?_append_left (by simpa [hl] using hj)] at hv
   exact ⟨0, j, l, rfl, hv, by omega, hj⟩
  ·rw [List.getElem?_append_right (by simpa [hl] using hj)] at hv
   obtain ⟨i, k, l', h1, h2, h3, h4⟩ := ih (fun x hx => h x (by simp [hx])) hv
   refine ⟨i + 1, k, l', by simpa using h1, h2, ?_, h4⟩
   simp only [id, hl] at h3
   rw [Nat.succ_mul]; omega

theorem opens_list {P : Program} {t e : TypeId} {α : Type} [Rp α] (ht : P.underlying t = some (.slice e)) (hc : P.cellsOf t = 1) (hpos : 0 < Rp.sz α) (ho : Opens P e α) : Opens P t (List α) := by
 refine ⟨hc, fun {H} enc w fuel cs d ps h W hW => ?_⟩
 cases fuel with
 | zero => cases h
 | succ n =>
  rcases cs with _ | ⟨c, _ | ⟨c', l⟩⟩
  ·simp [DataW.trod, ht] at h
  ·cases c <;> first | (simp [DataW.trod, ht] at h; done) | skip
   rename_i base len cap
   cases base with
   | none =>
    cases len with
    | succ k => simp [DataW.trod, ht] at h
    | zero =>
     cases cap with
     | succ k => simp [DataW.trod, ht] at h
     | zero =>
      refine shows_one (x := []) hW rfl (fun _ _ => ⟨_, rfl, [], Sl.nil, .nil⟩) ?_
      simp only [DataW.trod, ht, Option.some.injEq, Prod.mk.injEq] at h
      obtain ⟨rfl, rfl⟩ := h
      simp [Rp.bulk, ebulk]
   | some a =>
    simp only [DataW.trod, ht] at h
    split at h
    case isFalse => cases h
    rename_i hcap
    simp only [Option.bind_eq_some_iff, Option.map_eq_some_iff, if_true] at h
    obtain ⟨elems, he, rest, hr, hd⟩ := h
    simp only [Prod.mk.injEq] at hd
    obtain ⟨rfl, rfl⟩ := hd
    obtain ⟨L, l1, l2, l3⟩ := mapM_bind_some _ _ he
    have hlen : L.length = len := by
     have := congrArg List.length l2
     simpa using this
    have hsz := ho.1
    have cellAt : ∀ i l, (L.map (·.1))[i]? = some l → l.length = Rp.sz α ∧ ∀ k v, l[k]? = some v → ∃ cs e fr, w.heap[a.block]? = some (.cells cs e fr) ∧ cs[a.off + (i * Rp.sz α + k)]? = some v ∧ a.spot = none := by
     intro i l hl
     have hi : i < len := by
      have := (List.getElem?_eq_some_iff.1 hl).1
      simpa [hlen] using this
     have h2 : (L.map (fun y => some y.1))[i]? = some (some l) := by
      rw [List.getElem?_map] at hl ⊢
      simp only [Option.map_eq_some_iff] at hl ⊢
      obtain ⟨y, hy, rfl⟩ := hl
      exact ⟨y, hy, rfl⟩
     rw [l2, List.getElem?_map, List.getElem?_range hi] at h2
     simp only [Option.map_some, Option.some.injEq] at h2
     obtain ⟨_, g2, g3⟩ := World.cells?_some h2
     refine ⟨by rw [g2, hsz], fun k v hv => ?_⟩
     have hk : k < P.cellsOf e := by rw [← g2]; exact (List.getElem?_eq_some_iff.1 hv).1
     have h5 := g3 k hk
     rw [hv] at h5
     obtain ⟨g6, cs, ty, fr, g7, g8⟩ := cell_heap h5
     have h0 := g3 0 (by omega)
     obtain ⟨v0, hv0⟩ : ∃ v0, l[0]? = some v0 := ⟨_, List.getElem?_eq_getElem (by omega)⟩
     simp only [add_off, hsz] at g7 g8
     refine ⟨cs, ty, fr, g7, by rw [← Nat.add_assoc]; exact g8, ?_⟩
     by_cases hz : i * Rp.sz α = 0
     ·rw [hv0] at h0
      have := (cell_heap h0).1
      rw [hsz, hz] at this
      simpa [Addr.add] using this
     ·-- the first element's first cell
      have hL0 : 0 < len := by omega
      obtain ⟨y0, hy0⟩ : ∃ y0, L[0]? = some y0 := ⟨_, List.getElem?_eq_getElem (by omega)⟩
      have h2 : (L.map (fun y => some y.1))[0]? = some (some y0.1) := by rw [List.getElem?_map, hy0]; rfl
      rw [l2, List.getElem?_map, List.getElem?_range hL0] at h2
      simp only [Option.map_some, Option.some.injEq] at h2
      obtain ⟨_, q2, q3⟩ := World.cells?_some h2
      have q0 := q3 0 (by omega)
      obtain ⟨v1, hv1⟩ : ∃ v1, y0.1[0]? = some v1 := ⟨_, List.getElem?_eq_getElem (by omega)⟩
      rw [hv1] at q0
      have := (cell_heap q0).1
      simpa [Addr.add] using this
    obtain ⟨V, xs, acs, w1, w2, w3, w4, w5⟩ := opens_many ho enc w n L l3 W hW
    have hbk : Rp.bulk xs ≤ ebulk (DataW.slice (elems.map (·.1)) (rest.map (·.1))) := by
     simp only [Rp.bulk, ebulk]
     rw [← l1, List.map_map]
     have : ebulkAll (L.map (·.2.1)) = ebulkAll (L.map ((fun x => x.1) ∘ fun y => y.2)) := rfl
     omega
    have hxs : xs.length = len := by omega
    have hl := w3.len
    have hnew : ∀ x : Win, (mw (W ++ V ++ [x])) (W ++ V).length = some ⟨x.blk, x.off, 0⟩ := fun x => by simp [mw]
    rcases Nat.eq_zero_or_pos len with h0 | h0
    ·-- nothing in it
     subst h0
     have hx0 : xs = [] := List.length_eq_zero_iff.1 hxs
     subst hx0
     let x : Win := ⟨a.block, a.off, none⟩
     refine ⟨V ++ [x], [], [.slice (some ⟨(W ++ V).length, 0, some 0⟩) 0 cap], (WinOk.snoc w1 (x := x) (fun l hl => by cases hl)).more, ?_, ?_, hbk⟩
     ·rw [← List.append_assoc]
      refine LRel.cons ?_ .nil
      rcases Nat.eq_zero_or_pos cap with hc0 | hc0
      ·subst hc0
       exact .sl0 (hnew x)
      ·-- a spare place tells where it lies
       have hs : a.spot = none := by
        obtain ⟨L', m1, m2, m3⟩ := mapM_bind_some _ _ hr
        have hlen' : L'.length = cap - 0 := by
         have := congrArg List.length m2
         simpa using this
        obtain ⟨y0, hy0⟩ : ∃ y0, L'[0]? = some y0 := ⟨_, List.getElem?_eq_getElem (by omega)⟩
        have h2 : (L'.map (fun y => some y.1))[0]? = some (some y0.1) := by rw [List.getElem?_map, hy0]; rfl
        rw [m2, List.getElem?_map, List.getElem?_range (by omega)] at h2
        simp only [Option.map_some, Option.some.injEq] at h2
        obtain ⟨_, q2, q3⟩ := World.cells?_some h2
        have q0 := q3 0 (by omega)
        obtain ⟨v1, hv1⟩ : ∃ v1, y0.1[0]? = some v1 := ⟨_, List.getElem?_eq_getElem (by omega)⟩
        rw [hv1] at q0
        have := (cell_heap q0).1
        simpa [Addr.add] using this
       obtain ⟨ab, ao, as⟩ := a
       simp only at hs; subst hs
       exact .slx (o := 0) (hnew x) hcap.2.1
     ·rw [← List.append_assoc]
      refine ⟨_, rfl, [], .inr (.inl ⟨_, _, _, _, rfl, ?_, rfl, rfl⟩), .nil⟩
      simp [all, hw]
    ·-- a window
     have hrel : ∀ (j : Nat) v, acs[j]? = some v → ∃ v' cs e fr, w.heap[a.block]? = some (.cells cs e fr) ∧ cs[a.off + j]? = some v' ∧ a.spot = none ∧ VRel (mw (W ++ V)) v v' := by
      intro j v hv
      obtain ⟨v', hv', hr'⟩ := w2.get hv
      have e1 : L.flatMap (·.1) = (L.map (·.1)).flatMap id := by rw [List.flatMap_map]; rfl
      rw [e1] at hv'
      obtain ⟨i, k, l, f1, f2, f3, f4⟩ := flat_get (s := Rp.sz α) (fun l hl => by
       obtain ⟨i, hi⟩ := List.mem_iff_getElem?.1 hl
       exact (cellAt i l hi).1) hv'
      obtain ⟨cs, ty, fr, q1, q2, q3⟩ := (cellAt i l f1).2 k v' f2
      exact ⟨v', cs, ty, fr, q1, by rw [f3]; exact q2, q3, hr'⟩
     have hacs : acs.length = len * Rp.sz α := by rw [hl, hxs]
     have hp : 0 < len * Rp.sz α := Nat.mul_pos h0 hpos
     obtain ⟨vl, hvl⟩ : ∃ vl, acs[len * Rp.sz α - 1]? = some vl := ⟨_, List.getElem?_eq_getElem (by omega)⟩
     obtain ⟨vl', cs, ty, fr, q1, q2, q3, _⟩ := hrel _ _ hvl
     let x : Win := ⟨a.block, a.off, some acs⟩
     have hx : WinOk w (W ++ V ++ [x]) := WinOk.snoc w1 (x := x) (fun l hl' => by
      simp only [x, Option.some.injEq] at hl'
      subst hl'
      refine ⟨cs, ty, fr, q1, ?_, w3.one, fun j v hv => ?_⟩
      ·have := (Array.getElem?_eq_some_iff.1 q2).1
       simp only [x]; omega
      ·obtain ⟨v', cs', ty', fr', r1, r2, _, r4⟩ := hrel j v hv
       simp only [x] at r1 ⊢
       rw [q1] at r1
       simp only [Option.some.injEq, Obj.cells.injEq] at r1
       obtain ⟨rfl, _⟩ := r1
       exact ⟨v', r2, r4⟩)
     refine ⟨V ++ [x], xs, [.slice (some ⟨(W ++ V).length, 0, some 0⟩) len cap], hx.more, ?_, ?_, hbk⟩
     ·rw [← List.append_assoc]
      refine LRel.cons ?_ .nil
      obtain ⟨ab, ao, as⟩ := a
      simp only at q3; subst q3
      exact .slx (o := 0) (hnew x) hcap.2.1
     ·rw [← List.append_assoc]
      refine ⟨_, rfl, acs, .inr (.inr ⟨_, 0, _, cap, ⟨acs, 0, false⟩, by rw [hxs], ?_, ?_, ?_, by rw [hxs]; exact hcap.2.1, ?_⟩), (w3.keep (hw_keep _ _)).mono all_more⟩
      ·simp [all, hw]
      ·simp [hw, x]
      ·simp only [hxs]; omega
      ·simp only [cut, List.drop_zero, hxs]
       rw [← hacs, List.take_length]
  ·simp [DataW.trod, ht] at h

def OpensF (P : Program) (fs : List Field) (off : Nat) (α : Type) [Rp α] : Prop :=
 ∀ {H : Type} (enc : TypeId × Value → H) (w : World) (fuel : Nat) (cs : List Value) (xs : List (DataW H × List MemPlace)), fs.mapM (fun f => DataW.trod enc P w 0 (fun _ => true) true fuel f.type ((cs.drop f.offset).take (P.cellsOf f.type))) = some xs →
  cs.length = off + Rp.sz α → ∀ W, WinOk w W → Shows (α := α) w W (cs.drop off) (ebulkAll (xs.map (·.1)))
theorem OpensF.nil {P : Program} {off : Nat} : OpensF P [] off Unit := fun enc w fuel cs xs h hl W hW => by
 simp only [List.mapM_nil, Option.pure_def, Option.some.injEq] at h
 subst h
 rw [List.drop_eq_nil_of_le (by simp [Rp.sz] at hl; omega)]
 exact ⟨[], (), [], by simpa using hW, LRel.nil, rfl, by simp [Rp.bulk]⟩
theorem OpensF.cons {P : Program} {f : Field} {fs : List Field} {off : Nat} {α β : Type} [Rp α] [Rp β] (hf : f.offset = off) (h1 : Opens P f.type α) (h2 : OpensF P fs (off + Rp.sz α) β) : OpensF P (f :: fs) off (α × β) := fun {H} enc w fuel cs xs h hl W hW => by
 simp only [List.mapM_cons, Option.bind_eq_bind, Option.bind_eq_some_iff, Option.pure_def, Option.some.injEq] at h
 obtain ⟨y, hy, ys, hys, rfl⟩ := h
 have hl' : cs.length = off + Rp.sz α + Rp.sz β := by simp only [Rp.sz] at hl ⊢; omega
 obtain ⟨V, x, acs, g1, g2, g3, g4⟩ := h1.2 enc w fuel _ y.1 y.2 hy W hW
 obtain ⟨V', x', acs', k1, k2, k3, k4⟩ := h2 enc w fuel cs ys hys hl' (W ++ V) g1
 refine ⟨V ++ V', (x, x'), acs ++ acs', k1.more, ?_, ?_, ?_⟩
 ·have e : cs.drop off = (cs.drop f.offset).take (P.cellsOf f.type) ++ cs.drop (off + Rp.sz α) := by
   rw [hf, h1.1, ← List.drop_drop, List.take_append_drop]
  rw [e, ← List.append_assoc]
  exact (g2.mono (mw_more _ _)).append k2
 ·rw [← List.append_assoc]
  exact ⟨acs, acs', rfl, rep_more V' g3, k3⟩
 ·simp only [Rp.bulk, List.map_cons, ebulkAll]
  omega
theorem opens_struct {P : Program} {t : TypeId} {fs : Array Field} {α : Type} [Rp α] (ht : P.underlying t = some (.struct fs)) (hc : P.cellsOf t = Rp.sz α) (ho : OpensF P fs.toList 0 α) : Opens P t α := by
 refine ⟨hc, fun {H} enc w fuel cs d ps h W hW => ?_⟩
 cases fuel with
 | zero => cases h
 | succ n =>
  simp only [DataW.trod, ht] at h
  split at h
  case isFalse => cases h
  rename_i hl
  simp only [Option.map_eq_some_iff, Prod.mk.injEq] at h
  obtain ⟨xs, hx, rfl, rfl⟩ := h
  obtain ⟨V, x, acs, g1, g2, g3, g4⟩ := ho enc w n cs xs hx (by omega) W hW
  exact ⟨V, x, acs, g1, by simpa using g2, g3, by simp only [ebulk]; omega⟩
theorem opens_array {P : Program} {t e : TypeId} {n : Nat} {α : Type} [Rp α] (ht : P.underlying t = some (.array n e)) (hc : P.cellsOf t = n * Rp.sz α) (ho : Opens P e α) : Opens P t (Arr n α) := by
 refine ⟨hc, fun {H} enc w fuel cs d ps h W hW => ?_⟩
 cases fuel with
 | zero => cases h
 | succ m =>
  simp only [DataW.trod, ht] at h
  split at h
  case isFalse => cases h
  rename_i hl
  simp only [Option.map_eq_some_iff, Prod.mk.injEq] at h
  obtain ⟨xs, hx, rfl, rfl⟩ := h
  have hx' : (List.range n).mapM (fun i => (some ((cs.drop (i * P.cellsOf e)).take (P.cellsOf e))).bind (DataW.trod enc P w 0 (fun _ => true) true m e)) = some xs := hx
  obtain ⟨L, l1, l2, l3⟩ := mapM_bind_some _ _ hx'
  have hlen : L.length = n := by
   have := congrArg List.length l2
   simpa using this
  obtain ⟨V, ys, acs, w1, w2, w3, w4, w5⟩ := opens_many ho enc w m L l3 W hW
  refine ⟨V, ⟨ys, by omega⟩, acs, w1, ?_, w3, ?_⟩
  ·have e1 : L.map (·.1) = (List.range n).map fun i => (cs.drop (i * P.cellsOf e)).take (P.cellsOf e) := by
    have := congrArg (List.map fun o : Option (List Value) => o.getD []) l2
    simpa [Function.comp_def] using this
   have e2 : ∀ k, ((List.range k).map fun i => (cs.drop (i * P.cellsOf e)).take (P.cellsOf e)).flatMap id = cs.take (k * P.cellsOf e) := by
    intro k
    induction k with
    | zero => simp
    | succ k ih =>
     rw [List.range_succ, List.map_append, List.flatMap_append, ih]
     simp only [List.map_cons, List.map_nil, List.flatMap_cons, List.flatMap_nil, List.append_nil, id]
     rw [Nat.succ_mul, List.take_add]
   have e3 : L.flatMap (·.1) = (L.map (·.1)).flatMap id := by rw [List.flatMap_map]; rfl
   rw [e3, e1, e2, List.take_of_length_le (by rw [ho.1]; omega)] at w2
   exact w2
  ·simp only [Rp.bulk, ebulk]
   rw [← l1, List.map_map]
   have : ebulkAll (L.map (·.2.1)) = ebulkAll (L.map ((fun x => x.1) ∘ fun y => y.2)) := rfl
   omega
end Go.Eng
