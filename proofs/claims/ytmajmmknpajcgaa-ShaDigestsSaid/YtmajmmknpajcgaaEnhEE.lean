/- slices.Sort of numbers, told ahead. -/
import Derived.Test.YtmajmmknpajcgaaEnhAA
import Derived.Test.YtmajmmknpajcgaaEnhBB
import Derived.Test.YtmajmmknpajcgaaEnhF
import Derived.Sort.Grow
import Derived.Sort.Row
set_option linter.unusedVariables false
set_option linter.unusedSimpArgs false
namespace Go.Eng
open Go Go.RowKit Go.Sort

def i64Of : Value → Option Int
  | .int .i64 n => some n
  | _ => none
theorem i64_all : ∀ {cs : List Value} {zs : List Int}, cs.mapM i64Of = some zs → cs = I zs
  | [], zs, h => by simp at h; subst h; rfl
  | c :: cs, zs, h => by
    simp only [List.mapM_cons, Option.bind_eq_bind, Option.bind_eq_some_iff] at h
    obtain ⟨x, hx, ys, hy, h⟩ := h
    simp only [Option.pure_def, Option.some.injEq] at h
    subst h
    rw [i64_all hy]
    cases c <;> simp [i64Of] at hx
    rename_i k n
    cases k <;> simp [i64Of] at hx
    subst hx; rfl
def insI (x : Int) : List Int → List Int
  | [] => [x]
  | y :: l => if x ≤ y then x :: y :: l else y :: insI x l
def sortI : List Int → List Int
  | [] => []
  | x :: l => insI x (sortI l)
theorem insI_perm (x : Int) : ∀ l : List Int, (insI x l).Perm (x :: l)
  | [] => List.Perm.refl _
  | y :: l => by
    simp only [insI]
    split
    · exact List.Perm.refl _
    · exact ((insI_perm x l).cons y).trans (List.Perm.swap x y l)
theorem sortI_perm : ∀ l : List Int, (sortI l).Perm l
  | [] => List.Perm.refl _
  | x :: l => (insI_perm x _).trans ((sortI_perm l).cons x)
theorem insI_sorted (x : Int) : ∀ l : List Int, l.Pairwise (· ≤ ·) → (insI x l).Pairwise (· ≤ ·)
  | [], _ => List.pairwise_singleton _ _
  | y :: l, h => by
    have h' := List.pairwise_cons.1 h
    simp only [insI]
    split
    · rename_i hxy
      refine List.pairwise_cons.2 ⟨fun z hz => ?_, h⟩
      rcases List.mem_cons.1 hz with rfl | hz
      · exact hxy
      · have := h'.1 z hz; omega
    · rename_i hxy
      refine List.pairwise_cons.2 ⟨fun z hz => ?_, insI_sorted x l h'.2⟩
      rcases List.mem_cons.1 ((insI_perm x l).mem_iff.1 hz) with rfl | hz
      · omega
      · exact h'.1 z hz
theorem sortI_sorted : ∀ l : List Int, (sortI l).Pairwise (· ≤ ·)
  | [] => List.Pairwise.nil
  | x :: l => insI_sorted x _ (sortI_sorted l)
theorem sorted_unique : ∀ {a b : List Int}, a.Pairwise (· ≤ ·) → b.Pairwise (· ≤ ·) → a.Perm b → a = b
  | [], b, _, _, h => (List.Perm.nil_eq h)
  | x :: a, [], _, _, h => (List.Perm.eq_nil h)
  | x :: a, y :: b, ha, hb, h => by
    have ha' := List.pairwise_cons.1 ha
    have hb' := List.pairwise_cons.1 hb
    have hxy : x = y := by
      rcases List.mem_cons.1 (h.mem_iff.1 (List.mem_cons_self (a := x) (l := a))) with e | e
      · exact e
      · have h1 := hb'.1 x e
        rcases List.mem_cons.1 (h.mem_iff.2 (List.mem_cons_self (a := y) (l := b))) with e2 | e2
        · exact e2.symm
        · have h2 := ha'.1 y e2; omega
    subst hxy
    rw [sorted_unique ha'.2 hb'.2 (List.Perm.cons_inv h)]
theorem sortI_merge (zs : List Int) : (zs.mergeSort fun x y => decide (x ≤ y)) = sortI zs := by
  refine sorted_unique ?_ (sortI_sorted zs) ((List.mergeSort_perm zs _).trans (sortI_perm zs).symm)
  have := List.pairwise_mergeSort (le := fun x y : Int => decide (x ≤ y)) (fun a b c h1 h2 => by simp at *; omega) (fun a b => by simp; omega) zs
  exact this.imp fun h => by simpa using h
theorem sortI_len (zs : List Int) : (sortI zs).length = zs.length := (sortI_perm zs).length_eq
def srtX (args : List Value) (H : Heap) : Option (Value × Heap) := match args with
  | [.slice a n c] => if n = 0 then some (.tuple #[], H) else match a with
    | some ⟨b, 0, none⟩ => match H.get b with
      | some blk => if blk.w = true ∧ blk.cells.length = n ∧ n ≤ mostBytes then (match blk.cells.mapM i64Of with
          | some zs => some (.tuple #[], H.upd b (some ⟨splice blk.cells 0 (I (sortI zs)), blk.sz, true⟩))
          | none => none) else none
      | none => none
    | _ => none
  | _ => none
def srtE (f : FuncId) : Ext := fun g => if g = f then some srtX else none
theorem srtX_mono : CMono (fun _ => srtX) := fun f args H v H' h => by
  have h : srtX args H = some (v, H') := h
  unfold srtX at h
  split at h
  · split at h
    · simp only [Option.some.injEq, Prod.mk.injEq] at h; obtain ⟨_, rfl⟩ := h; exact Mono.refl _
    · split at h
      · split at h
        · rename_i hb
          split at h
          · split at h
            · simp only [Option.some.injEq, Prod.mk.injEq] at h; obtain ⟨_, rfl⟩ := h; exact Mono.upd' hb
            · cases h
          · cases h
        · cases h
      · cases h
  · cases h
theorem srtE_mono (f : FuncId) : ExtMono (srtE f) := fun g k h => by
  unfold srtE at h
  split at h
  · injection h with h; subst h; exact srtX_mono
  · cases h
theorem put_spl {cs : Array Value} {o : Nat} {zs : List Int} (h : o + zs.length ≤ cs.size) : putCells (Value.int .i64) o zs.toArray cs = spl cs o (I zs) := by
  apply Array.ext_getElem?
  intro j
  rw [spl_get _ _ _ _ (by simpa [I] using h)]
  simp only [putCells, Array.getElem?_mapIdx, List.size_toArray, I, List.length_map]
  by_cases hj : o ≤ j ∧ j < o + zs.length
  · rw [if_pos hj]
    have h1 : j < cs.size := by omega
    have h2 : j - o < zs.length := by omega
    rw [Array.getElem?_eq_getElem h1]
    simp only [Option.map_some, if_pos hj, List.getElem?_map, List.getElem?_eq_getElem h2]
    congr 2
    rw [getElem!_pos _ _ (by simpa using h2)]
    simp
  · rw [if_neg hj]
    simp only [if_neg hj]
    cases cs[j]? <;> rfl
theorem put_row {w : World} {g o : Nat} {cs : Array Value} {e : TypeId} {fr : Nat × Nat} {zs : List Int} (hh : w.heap[g]? = some (.cells cs e fr)) (h : o + zs.length ≤ cs.size) (n : Nat) (os : Array Obj) :
    Below (wput w g (spl cs o (I zs)) e fr).heap.size (wput w g (spl cs o (I zs)) e fr) (grow (putRow (Value.int .i64) (Sort.ahead w n) g o zs.toArray) os) := by
  have hg : g < w.heap.size := (Array.getElem?_eq_some_iff.1 hh).1
  have hs : (grow (putRow (Value.int .i64) (Sort.ahead w n) g o zs.toArray) os).heap.size = w.heap.size + os.size := by simp [grow, putRow, mapBlock, Sort.ahead]
  refine ⟨rfl, rfl, rfl, by rw [hs]; simp [wput], fun k hk => ?_⟩
  have hk' : k < w.heap.size := by simpa [wput] using hk
  rw [wput_heap hg]
  simp only [grow, putRow, mapBlock, Sort.ahead]
  rw [Array.getElem?_append_left (by simpa using hk'), Array.getElem?_modify]
  by_cases he : g = k
  · subst he
    rw [if_pos rfl, if_pos rfl, hh]
    simp only [Option.map_some, onCells, put_spl h]
  · rw [if_neg he, if_neg he]
theorem srtE_sound {P : Program} {gl : Bool} {f : FuncId}
    (hc : ∀ (blk off cap : Nat) (zs : List Int) (w : World), Holds (Value.int .i64) w blk off zs.toArray → blk < w.heap.size → zs.length < 4611686018427387904 →
      Calls P f #[.slice (some ⟨blk, off, none⟩) zs.length cap] w fun e w' => e = .returned (.tuple #[]) ∧ ∃ n os, w' = grow (putRow (Value.int .i64) (Sort.ahead w n) blk off (zs.mergeSort fun x y => decide (x ≤ y)).toArray) os)
    (h0 : ∀ (p : Option Addr) (cap : Nat) (w : World), Calls P f #[.slice p 0 cap] w fun e w' => e = .returned (.tuple #[]) ∧ w' = w) : ExtSound P gl (srtE f) := by
  intro g k hk args H v H2 hr m w args' ha hrel hl hG
  have hm : mostBytes = 140737488355328 := rfl
  unfold srtE at hk
  split at hk
  case isFalse => cases hk
  rename_i he
  subst he
  injection hk with hk; subst hk
  unfold srtX at hr
  split at hr
  case h_2 => cases hr
  rename_i a n c
  obtain ⟨v', r', rfl, hv, hn⟩ := ha.cases_cons
  obtain rfl := hn.cases_nil
  split at hr
  · rename_i h; subst h
    simp only [Option.some.injEq, Prod.mk.injEq] at hr
    obtain ⟨rfl, rfl⟩ := hr
    obtain ⟨a', c', rfl⟩ : ∃ a' c', v' = .slice a' 0 c' := by
      cases hv with
      | flat h => exact ⟨_, _, rfl⟩
      | slc h h1 h2 h3 => exact ⟨_, _, rfl⟩
      | slx h h3 => exact ⟨_, _, rfl⟩
      | sl0 h => exact ⟨_, _, rfl⟩
    exact (h0 a' c' w).mono fun e w' ⟨he, hw⟩ => ⟨m, _, he, VRel.undef, by rw [hw]; exact Step.refl hrel⟩
  · split at hr
    · rename_i b
      split at hr
      · rename_i blk hb
        split at hr
        · rename_i hcond
          obtain ⟨c1, c2, c3⟩ := hcond
          obtain ⟨c4, c5⟩ := Blk.w_iff.1 c1
          split at hr
          · rename_i zs hz
            simp only [Option.some.injEq, Prod.mk.injEq] at hr
            obtain ⟨rfl, rfl⟩ := hr
            have hcells := i64_all hz
            obtain ⟨p, c', hp, rfl⟩ : ∃ (p : Pl) (c' : Nat), m b = some p ∧ v' = .slice (some ⟨p.blk, p.off + 0, none⟩) n c' := by
              cases hv with
              | flat h => simp [flat1] at h
              | slc h h1 h2 h3 => exact ⟨_, _, h, rfl⟩
              | sl0 h => exact absurd rfl ‹¬ _ = 0›
            obtain ⟨cs, e, fr, hh, hsz, hcs, hf⟩ := (hrel.blk b blk p hb hp).plain c5
            have hlen : zs.length = n := by rw [← c2, hcells]; simp [I]
            have hH : Holds (Value.int .i64) w p.blk (p.off + 0) zs.toArray := fun j hj => by
              have hj' : j < zs.length := by simpa using hj
              have hcj : blk.cells[j]? = some (.int .i64 zs[j]) := by rw [hcells]; simp [I, List.getElem?_eq_getElem hj']
              obtain ⟨y, y1, y2⟩ := hcs j _ hcj
              obtain rfl := y2.eq_of_flat1 rfl
              refine ⟨?_, ?_⟩
              · simp only [World.cell?, Option.isSome_none, Bool.false_eq_true, if_false, hh, Nat.add_zero, y1]
                rw [getElem!_pos _ _ (by simpa using hj')]
                simp
              · have := (hf c4).not (o := p.off + j) (by rw [c2]; omega)
                simp only [World.frozen?, hh, Nat.add_zero]
                simpa using this
            have hcall := hc p.blk (p.off + 0) c' zs w hH (Array.getElem?_eq_some_iff.1 hh).1 (by omega)
            rw [hlen] at hcall
            refine hcall.mono fun e' w' ⟨he', k, os, hw⟩ => ?_
            have hsl : (I (sortI zs)).length = n := by simp [I, sortI_len, hlen]
            have st := Step.write (vs := I (sortI zs)) (vs' := I (sortI zs)) (o := 0) hrel hb c4 hp hh (by rw [hsl, c2]; omega) ⟨rfl, fun i x x' hx hx' => by
              rw [hx] at hx'; injection hx' with hx'; subst hx'
              simp only [I, List.getElem?_map, Option.map_eq_some_iff] at hx
              obtain ⟨y, _, rfl⟩ := hx
              exact .flat rfl⟩ (by rw [List.all_eq_true]; intro x hx; simp only [I, List.mem_map] at hx; obtain ⟨y, _, rfl⟩ := hx; rfl)
            refine ⟨m, _, he', VRel.undef, ?_⟩
            rw [hw, sortI_merge]
            exact st.trans (step_below st.rel (put_row hh (by rw [← hsl] at c2; simp only [I, List.length_map] at c2; show p.off + 0 + (sortI zs).length ≤ cs.size; omega) k os))
          · cases hr
        · cases hr
      · cases hr
    · cases hr
end Go.Eng
