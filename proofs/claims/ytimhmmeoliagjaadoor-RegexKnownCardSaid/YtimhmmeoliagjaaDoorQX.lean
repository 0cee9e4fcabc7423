import Derived.RangeFuncWrites
import Derived.RangeFuncBox
import Derived.Test.YtimhmmeoliagjaaDoorQW
import Derived.Test.YtimhmmeoliagjaaDoorQY
set_option linter.unusedVariables false
set_option linter.unusedSimpArgs false
set_option maxRecDepth 100000
namespace Go.Proofs
open Go.RowKit Go.Shelf Go.Eng
attribute [local go_sem] Oper.semAt_some

theorem allOf_calls (x0 x1 x2 x3 : Value) (w : World) : Calls Tryd.prog 87 #[.agg #[x0, x1, x2, x3]] w fun e w' => e = .returned (.func (.func 95) #[] #[.pointer (some ⟨w.heap.size, 0, none⟩)]) ∧ w' = w.alloc (.cells #[x0, x1, x2, x3] 56) := by
  go_enter Tryd.func87, Tryd.ntmps87
  go_wp2
  go_ret
  exact ⟨rfl, rfl⟩
def leastV (s : Nat) : Value := match setL s with
  | [] => .tuple #[.int .u8 0, .bool false]
  | c :: _ => .tuple #[.int .u8 (c : Int), .bool true]
theorem eq0_run (s : Nat) (w : World) : (Op.equalIn 10000 56 (.agg #[.int .u64 (wrd s 0 : Int), .int .u64 (wrd s 1 : Int), .int .u64 (wrd s 2 : Int), .int .u64 (wrd s 3 : Int)]) (.agg #[.int .u64 0, .int .u64 0, .int .u64 0, .int .u64 0])).run Tryd.prog w = .ok (decide (sameS s 0)) w :=
  eqA_run (set_eqA s 0) w
theorem setL_zero {s : Nat} (h : sameS s 0) : setL s = [] := by
  rw [sameS_iff] at h
  obtain ⟨h0, h1, h2, h3⟩ := h
  have e : ∀ i, wrd 0 i = 0 := fun i => by simp [wrd]
  simp only [setL, h0, h1, h2, h3, e, bitsF_zero, List.append_nil]
theorem setL_pos {s : Nat} (h : ¬ sameS s 0) : ∃ c l, setL s = c :: l := by
  cases hs : setL s with
  | cons c l => exact ⟨c, l, rfl⟩
  | nil =>
    exfalso
    apply h
    have e : ∀ i, wrd 0 i = 0 := fun i => by simp [wrd]
    intro i hi
    rw [e]
    apply Nat.eq_of_testBit_eq
    intro j
    rw [Nat.zero_testBit, wrd_bit]
    by_cases hj : j < 64
    · have hm : 64 * i + j ∉ setL s := by rw [hs]; simp
      rw [setL_mem] at hm
      have : 64 * i + j < 256 := by omega
      simp only [this, true_and] at hm
      simp [hm]
    · simp [hj]
theorem least_res (tmps : Array Value) (b1 b2 : Nat) (W : World) (x : Int) (y : Bool) (h2 : tmps[2]? = some (.pointer (some ⟨b1, 0, none⟩))) (h3 : tmps[3]? = some (.pointer (some ⟨b2, 0, none⟩)))
    (c1 : W.cell? ⟨b1, 0, none⟩ = some (.int .u8 x)) (c2 : W.cell? ⟨b2, 0, none⟩ = some (.bool y)) : (Go.results Tryd.f75 tmps).run Tryd.prog W = .ok (.tuple #[.int .u8 x, .bool y]) W := by
  have hres : Tryd.f75.results = #[.cell 2 5, .cell 3 4] := by kernel_rfl
  simp only [Go.results, hres]
  simp [go_sem, h2, h3, c1, c2]
set_option maxHeartbeats 4000000 in
theorem least_calls (s : Nat) (w : World) (hT : TabAt 2 Lib.deBruijn64tab w) : Calls Tryd.prog 75 #[.agg (setW s)] w fun e w' => e = .returned (leastV s) ∧ Below w.heap.size w w' := by
  refine callsIn_wide (n := 8) |>.1 ?_
  refine callsIn_of_wp_marks Tryd.func75 rfl trivial ?_ rfl
  simp only [Tryd.ntmps75, List.size_toArray, List.length_cons, List.length_nil, Nat.reduceAdd, Nat.reduceSub, Array.replicate_succ, Array.replicate_zero, List.push_toArray, List.append_toArray, List.nil_append, List.cons_append]
  unfold setW
  have heq := fun w => eq0_run s w
  gi_wp2
  · rename_i hz
    refine ⟨_, least_res _ (w.heap.size + 1) (w.heap.size + 1 + 1) _ 0 false rfl rfl ?_ ?_, ?_, ?_⟩
    · have := ((Boxed.new (w.alloc (.cells #[.int .u64 (wrd s 0 : Int), .int .u64 (wrd s 1 : Int), .int .u64 (wrd s 2 : Int), .int .u64 (wrd s 3 : Int)] 56)) 5 (.int .u8 0)).alloc (.cells #[.bool false] 4)).cell
      simpa using this
    · have := (Boxed.new ((w.alloc (.cells #[.int .u64 (wrd s 0 : Int), .int .u64 (wrd s 1 : Int), .int .u64 (wrd s 2 : Int), .int .u64 (wrd s 3 : Int)] 56)).alloc (.cells #[.int .u8 0] 5)) 4 (.bool false)).cell
      simpa using this
    · unfold leastV; rw [setL_zero hz]
    · exact (((Below.refl _ w).alloc (Nat.le_refl _) _).alloc (by simp) _).alloc (by simp; omega) _
  · rename_i hz
    refine ⟨trivial, callsIn_wide.2 ((allOf_calls _ _ _ _ _).mono ?_)⟩
    rintro e w' ⟨rfl, rfl⟩
    gi_wp2
    obtain ⟨W0, hW0⟩ : ∃ W0, (((w.alloc (.cells (setW s) 56)).alloc (.cells #[.int .u8 0] 5)).alloc (.cells #[.bool false] 4)).alloc (.cells (setW s) 56) = W0 := ⟨_, rfl⟩
    have hB1 : Boxed W0 (w.heap.size + 1) 5 (.int .u8 0) := by
      have h := (((Boxed.new (w.alloc (.cells (setW s) 56)) 5 (.int .u8 0)).alloc (.cells #[.bool false] 4)).alloc (.cells (setW s) 56))
      rw [World.size_alloc, hW0] at h
      exact h
    have hB2 : Boxed W0 (w.heap.size + 1 + 1) 4 (.bool false) := by
      have h := (Boxed.new ((w.alloc (.cells (setW s) 56)).alloc (.cells #[.int .u8 0] 5)) 4 (.bool false)).alloc (.cells (setW s) 56)
      rw [World.size_alloc, World.size_alloc, hW0] at h
      exact h
    have hset : W0.heap[w.heap.size + 1 + 1 + 1]? = some (.cells (setW s) 56 (0, 0)) := by
      have h := World.alloc_heap_new (((w.alloc (.cells (setW s) 56)).alloc (.cells #[.int .u8 0] 5)).alloc (.cells #[.bool false] 4)) (.cells (setW s) 56)
      rw [World.size_alloc, World.size_alloc, World.size_alloc, hW0] at h
      exact h
    have hB0 : Below w.heap.size w W0 := by
      rw [← hW0]
      exact ((((Below.refl _ w).alloc (Nat.le_refl _) _).alloc (by simp) _).alloc (by simp; omega) _).alloc (by simp; omega) _
    have hsz : W0.heap.size = w.heap.size + 4 := by rw [← hW0]; simp
    have h2 : 2 < w.heap.size := by
      have := hT 0 (by decide)
      rcases Nat.lt_or_ge 2 w.heap.size with h | h
      · exact h
      · simp [World.cell?, Array.getElem?_eq_none h] at this
    have hT0 := tabAt_below hT hB0 h2
    rw [show (.cells #[.int .u64 (wrd s 0 : Int), .int .u64 (wrd s 1 : Int), .int .u64 (wrd s 2 : Int), .int .u64 (wrd s 3 : Int)] 56 : Obj) = .cells (setW s) 56 from rfl, hW0]
    have keepB : ∀ {B : Nat} {t : TypeId} {v : Value} {X Y : World} {row : Option Nat}, Boxed X B t v → X.grownBy Y row → (∀ r, row = some r → W0.heap.size ≤ r ∧ ∃ o : Obj, X.heap[r]? = some o ∧ o.isCells = false) → Boxed Y B t v := fun hv hg hr => hv.kept hg fun e => by
      obtain ⟨_, o, ho, hc⟩ := hr _ e.symm
      have hv' : _ = _ := hv
      rw [hv'] at ho; cases ho; cases hc
    refine wpIn_rangeFunc_ownG rfl (by decide) (gf := 95) (lb := #[.pointer (some ⟨w.heap.size + 1 + 1 + 1, 0, none⟩)]) rfl trivial (enters_of Tryd.func95 (by kernel_rfl) rfl) (all_stops 7 s (w.heap.size + 1 + 1 + 1) 0 W0.heap.size W0 (by omega) (Nat.le_refl _) (fun j _ => by rw [Nat.zero_add]; exact Go.Lib.cell_of_heap hset j) hT0)
      (fun h k => h.trans k) (fun W l o o' hl h _ _ => (Below.refl _ W).grown (grownBy_putObj' W l o') (by have := (Array.getElem?_eq_some_iff.1 h).1; omega) (fun k e => by cases e; exact hl)) (Below.refl _ _) (fun _ => rfl)
      (fun pre W => pre = [] ∧ Boxed W (w.heap.size + 1) 5 (.int .u8 0) ∧ Boxed W (w.heap.size + 1 + 1) 4 (.bool false) ∧ Below w.heap.size w W)
      (fun c pre W => c = .ret ∧ ∃ x : Nat, pre = [x] ∧ Boxed W (w.heap.size + 1) 5 (.int .u8 (x : Int)) ∧ Boxed W (w.heap.size + 1 + 1) 4 (.bool true) ∧ Below w.heap.size w W)
      (fun l A B row hs hg hr => ⟨hs.1, keepB hs.2.1 hg hr, keepB hs.2.2.1 hg hr, hs.2.2.2.grown hg hs.2.2.2.size fun k e => by have := (hr k e).1; omega⟩)
      (fun c l A B row ⟨hc, x, hs⟩ hg hr => ⟨hc, x, hs.1, keepB hs.2.1 hg hr, keepB hs.2.2.1 hg hr, hs.2.2.2.grown hg hs.2.2.2.size fun k e => by have := (hr k e).1; omega⟩)
      ⟨rfl, hB1, hB2, hB0⟩
      (fun x => { tmps := #[.agg (setW s), .pointer (some ⟨w.heap.size, 0, none⟩), .pointer (some ⟨w.heap.size + 1, 0, none⟩), .pointer (some ⟨w.heap.size + 1 + 1, 0, none⟩), .int .u8 (x : Int), .agg (setW s), .agg #[.int .u64 0, .int .u64 0, .int .u64 0, .int .u64 0], .bool false, .agg (setW s), .func (.func 95) #[] #[.pointer (some ⟨w.heap.size + 1 + 1 + 1, 0, none⟩)], .int .u8 (x : Int), undef], defers := [] }) ?assign ?body ?done ?stop
    case assign =>
      intro l x W K hK
      gi_wp2
      exact hK
    case body =>
      rintro l pre x W ⟨rfl, h1, h2, h3⟩ _
      have c1 := h1.cell
      have c2 := h2.cell
      have f1 := h1.frozen
      have f2 := h2.frozen
      gi_wp2
      refine ⟨((KeepsOthers.setCell _ _ _).trans (KeepsOthers.setCell _ _ _)).from _, rfl, x, rfl, (h1.set _).kept (grownBy_setCell' _ _ _) (by simp), Boxed.set _ (h2.kept (grownBy_setCell' _ _ _) (by simp)), (h3.setCell (p := ⟨w.heap.size + 1, 0, none⟩) (by show w.heap.size ≤ w.heap.size + 1; omega) _).setCell (p := ⟨w.heap.size + 1 + 1, 0, none⟩) (by show w.heap.size ≤ w.heap.size + 1 + 1; omega) _⟩
    case done =>
      rintro D xs W hD hx ⟨rfl, h1, h2, h3⟩ hK
      obtain ⟨c, l, hcl⟩ := setL_pos ‹¬ sameS s 0›
      rw [hcl] at hx
      cases hx
    case stop =>
      rintro D c pre W hD hp ⟨rfl, x, rfl, h1, h2, h3⟩ hK
      have c1 := h1.cell
      have c2 := h2.cell
      gi_wp2
      refine ⟨by simp, .inl ⟨_, _, rfl, run_takeDeferred hK, ?_⟩⟩
      have k1 : Boxed (W.putObj D (.deferred none)) (w.heap.size + 1) 5 (.int .u8 (x : Int)) := h1.kept (grownBy_putObj' W D _) (by simp; omega)
      have k2 : Boxed (W.putObj D (.deferred none)) (w.heap.size + 1 + 1) 4 (.bool true) := h2.kept (grownBy_putObj' W D _) (by simp; omega)
      refine ⟨_, least_res _ (w.heap.size + 1) (w.heap.size + 1 + 1) _ (x : Int) true rfl rfl k1.cell k2.cell, ?_, h3.grown (grownBy_putObj' W D _) h3.size fun k e => by cases e; omega⟩
      unfold leastV
      obtain ⟨r, hr⟩ := hp
      rw [← hr]
      rfl
end Go.Proofs
