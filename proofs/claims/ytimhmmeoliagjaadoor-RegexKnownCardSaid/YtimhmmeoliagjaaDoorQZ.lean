import Derived.Test.YtimhmmeoliagjaaDoorQX
set_option linter.unusedVariables false
set_option linter.unusedSimpArgs false
set_option maxRecDepth 100000
namespace Go.Proofs
open Go.RowKit Go.Shelf Go.Eng
attribute [local go_sem] Oper.semAt_some

theorem qInfo5 : (Tryd.prog.info? 5).map (fun i => (i.zero, i.size, i.bytes)) = some (some (.int .u8 0), 1, 1) := by kernel_rfl
def bV (c : Nat) : Value := .int .u8 (c : Int)
set_option maxHeartbeats 4000000 in
theorem appSeq_calls (s Bm off : Nat) (w : World) (hset : ∀ j, j < 4 → w.cell? ⟨Bm, off + j, none⟩ = (setW s)[j]?) (hT : TabAt 2 Lib.deBruijn64tab w) :
    Calls Tryd.prog 97 #[.slice none 0 0, .func (.func 95) #[] #[.pointer (some ⟨Bm, off, none⟩)]] w fun e w' => ∃ v, e = .returned v ∧ w'.ownsRow w.heap.size 5 1 v (setL s).length ((setL s).map bV) ∧ (v = .slice none 0 0 ↔ setL s = []) ∧ Below w.heap.size w w' := by
  refine callsIn_wide (n := 8) |>.1 ?_
  refine callsIn_of_wp_marks Tryd.func97 rfl trivial ?_ rfl
  simp only [Tryd.ntmps97, List.size_toArray, List.length_cons, List.length_nil, Nat.reduceAdd, Nat.reduceSub, Array.replicate_succ, Array.replicate_zero, List.push_toArray, List.append_toArray, List.nil_append, List.cons_append]
  gi_wp2
  obtain ⟨W0, hW0⟩ : ∃ W0, w.alloc (.cells #[.slice none 0 0] 35) = W0 := ⟨_, rfl⟩
  have hB1 : Boxed W0 w.heap.size 35 (.slice none 0 0) := by rw [← hW0]; exact Boxed.new w 35 _
  have hB0 : Below w.heap.size w W0 := by rw [← hW0]; exact (Below.refl _ w).alloc (Nat.le_refl _) _
  have hsz : W0.heap.size = w.heap.size + 1 := by rw [← hW0]; simp
  have h2 : 2 < w.heap.size := by
    have := hT 0 (by decide)
    rcases Nat.lt_or_ge 2 w.heap.size with h | h
    · exact h
    · simp [World.cell?, Array.getElem?_eq_none h] at this
  have hT0 := tabAt_below hT hB0 h2
  have hBl : Bm < w.heap.size := by
    have := hset 0 (by decide)
    rcases Nat.lt_or_ge Bm w.heap.size with h | h
    · exact h
    · simp [World.cell?, Array.getElem?_eq_none h, setW] at this
  have hset0 : ∀ j, j < 4 → W0.cell? ⟨Bm, off + j, none⟩ = (setW s)[j]? := fun j hj => (hB0.cell (p := ⟨Bm, off + j, none⟩) hBl).trans (hset j hj)
  rw [hW0]
  obtain ⟨i0, hi0, hz0, hz1, hz2⟩ := info_parts qInfo5
  refine wpIn_rangeFunc_ownG rfl (by decide) (gf := 95) (lb := #[.pointer (some ⟨Bm, off, none⟩)]) rfl trivial (enters_of Tryd.func95 (by kernel_rfl) rfl) (all_stops 7 s Bm off w.heap.size W0 h2 (by omega) hset0 hT0)
    (fun h k => h.trans k) (fun W l o o' hl h _ _ => (Below.refl _ W).grown (grownBy_putObj' W l o') (by have := (Array.getElem?_eq_some_iff.1 h).1; omega) (fun k e => by cases e; omega)) (Below.refl _ _) (fun _ => rfl)
    (fun pre W => ∃ v, Boxed W w.heap.size 35 v ∧ W.ownsRow w.heap.size 5 1 v pre.length (pre.map bV) ∧ (v = .slice none 0 0 ↔ pre = []) ∧ Below w.heap.size w W ∧ W0.heap.size ≤ W.heap.size)
    (fun c pre W => False)
    (fun l A B row ⟨v, h1, h3, h4, h5, h6⟩ hg hr => by
      obtain ⟨v', q1, q2, q3⟩ := holdsRow_own w.heap.size w.heap.size 35 5 1 (fun l : List Nat => l.length) (fun l => l.map bV) (fun l v => v = .slice none 0 0 ↔ l = []) l A B row ⟨v, h1, h3, h4⟩ hg (fun r e => (hr r e).2)
      exact ⟨v', q1, q2, q3, h5.grown hg h5.size fun k e => by have := (hr k e).1; omega, Nat.le_trans h6 hg.size⟩)
    (fun c l A B row h hg hr => h)
    ⟨_, hB1, World.ownsRow_nil _ _ _ _, by simp, hB0, Nat.le_refl _⟩
    (fun x => { tmps := #[.slice none 0 0, .func (.func 95) #[] #[.pointer (some ⟨Bm, off, none⟩)], .pointer (some ⟨w.heap.size, 0, none⟩), undef, .slice none 0 0, bV x, .func (.func 95) #[] #[.pointer (some ⟨Bm, off, none⟩)], bV x, undef, undef, undef, undef, undef], defers := [] }) ?assign ?body ?done ?stop
  case assign =>
    intro l x W K hK
    gi_wp2
    exact hK
  case body =>
    rintro l pre x W ⟨v, h1, hrow, hnil, hb, hsW⟩ hlen
    have c1 := h1.cell
    have f1 := h1.frozen
    unfold bV
    gi_wp2_with (first
      | (gi_at_builtin; refine wpListIn_append_own _ rfl _ _ 35 rfl w.heap.size 5 i0 (.int .u8 0) 1 1 Tryd.underlying35 hi0 hz0 hz1 hz2 rfl (by decide) _ _ _ rfl (hrow.alloc _) ⟨W.heap.size, 0, none⟩ 1 1 [.int .u8 (x : Int)] rfl rfl (cell_one_new _ _ _) (by simp [Value.oneCell']) (by unfold maxLen; omega) (by omega) (by simp; omega) ?_; intro v' w1 hown' hgrow hnil'
         obtain ⟨k1, k2, k3, k4, k5⟩ := h1.appended (by decide) hrow (by omega) (Nat.le_refl _) hown' hgrow
         obtain ⟨g', cap', rfl⟩ := ownsRow_succ hown'
         have d1 := k1.cell
         have d2 := k1.frozen)
      | gi_in)
    refine ⟨k4.from _, k5, _, k2, ?_, by simp, hb.trans k5, Nat.le_trans hsW k5.size⟩
    have e : (pre ++ [x]).map (fun c : Nat => Value.int .u8 (c : Int)) = pre.map bV ++ [.int .u8 (x : Int)] := by rw [List.map_append]; rfl
    rw [e, List.length_append]
    exact k3
  case done =>
    rintro D xs W hD rfl ⟨v, h1, hrow, hnil, hb, hsW⟩ hK
    have c1 := h1.cell
    gi_wp2
    refine ⟨by simp, .inl ⟨_, _, rfl, run_takeDeferred hK, ?_⟩⟩
    refine ⟨v, ?_, v, rfl, ownsRow_putObj hrow (.deferred none) hK rfl, hnil, hb.grown (grownBy_putObj' W D _) hb.size fun k e => by cases e; omega⟩
    have hres : Tryd.f97.results = #[.tmp 4] := by kernel_rfl
    simp [Go.results, hres, go_sem]
  case stop =>
    rintro D c pre W hD hp h hK
    exact h.elim
theorem collect_calls (s Bm off : Nat) (w : World) (hset : ∀ j, j < 4 → w.cell? ⟨Bm, off + j, none⟩ = (setW s)[j]?) (hT : TabAt 2 Lib.deBruijn64tab w) :
    Calls Tryd.prog 88 #[.func (.func 95) #[] #[.pointer (some ⟨Bm, off, none⟩)]] w fun e w' => ∃ v, e = .returned v ∧ w'.ownsRow w.heap.size 5 1 v (setL s).length ((setL s).map bV) ∧ (v = .slice none 0 0 ↔ setL s = []) ∧ Below w.heap.size w w' := by
  refine callsIn_wide (n := 8) |>.1 ?_
  refine callsIn_of_wp Tryd.func88 rfl trivial ?_ rfl
  simp only [Tryd.ntmps88, List.size_toArray, List.length_cons, List.length_nil, Nat.reduceAdd, Nat.reduceSub, Array.replicate_succ, Array.replicate_zero, List.push_toArray, List.append_toArray, List.nil_append, List.cons_append]
  gi_wp2
  refine ⟨trivial, callsIn_wide.2 ((appSeq_calls s Bm off w hset hT).mono ?_)⟩
  rintro e w' ⟨v, rfl, h1, h2, h3⟩
  gi_wp2
  refine bodyPost_ret (v := v) ?_ rfl ⟨v, rfl, h1, h2, h3⟩
  have hres : Tryd.f88.results = #[.tmp 2] := by kernel_rfl
  simp [Go.results, hres, go_sem]
end Go.Proofs
