/- The law ImportsReach. -/
import Derived.Test.YtiflkdemlhpibaaDoorJK
import Derived.Test.YtiflkdemlhpibaaDoorJH
set_option linter.unusedVariables false
set_option linter.unusedSimpArgs false
set_option linter.unusedSectionVars false
set_option maxRecDepth 100000
namespace Go.Eng
open Go Go.Proofs

theorem int_ext : ∀ {a b : List Int}, a.Pairwise (· < ·) → b.Pairwise (· < ·) → (∀ k, k ∈ a ↔ k ∈ b) → a = b
  | [], [], _, _, _ => rfl
  | [], y :: b, _, _, h => by have := (h y).2 (by simp); cases this
  | x :: a, [], _, _, h => by have := (h x).1 (by simp); cases this
  | x :: a, y :: b, ha, hb, h => by
    have ha' := List.pairwise_cons.1 ha
    have hb' := List.pairwise_cons.1 hb
    have hxy : x = y := by
      rcases List.mem_cons.1 ((h x).1 (by simp)) with e | e
      · exact e
      · have h1 := hb'.1 x e
        rcases List.mem_cons.1 ((h y).2 (by simp)) with e2 | e2
        · exact e2.symm
        · have h2 := ha'.1 y e2; omega
    subst hxy
    congr 1
    refine int_ext ha'.2 hb'.2 fun k => ⟨fun hk => ?_, fun hk => ?_⟩
    · rcases List.mem_cons.1 ((h k).1 (by simp [hk])) with e | e
      · have := ha'.1 k hk; omega
      · exact e
    · rcases List.mem_cons.1 ((h k).2 (by simp [hk])) with e | e
      · have := hb'.1 k hk; omega
      · exact e
/-- Both find the same. -/
theorem reach_same (l : List En) (root : List UInt8) : sortI ((bfs l (todo l [root] []) [root] []).map fun (k : Nat) => (k : Int)) = (reachN root l).map fun (k : Nat) => (k : Int) := by
  obtain ⟨nd, mem⟩ := bfs_root (l := l) (root := root) (n := todo l [root] []) (Nat.le_refl _)
  have mem2 := rnd_root l root
  have ndI : ((bfs l (todo l [root] []) [root] []).map fun (k : Nat) => (k : Int)).Nodup := List.Pairwise.map _ (fun a b h e => h (by omega)) nd
  have ndS : (sortI ((bfs l (todo l [root] []) [root] []).map fun (k : Nat) => (k : Int))).Nodup := (sortI_perm _).nodup_iff.2 ndI
  refine int_ext ?_ ?_ fun k => ?_
  · have h1 := sortI_sorted ((bfs l (todo l [root] []) [root] []).map fun (k : Nat) => (k : Int))
    exact List.Pairwise.imp (fun h => by obtain ⟨h1, h2⟩ := h; omega) (List.Pairwise.and h1 ndS)
  · exact List.Pairwise.map _ (fun a b h => by omega) (picks_rise _)
  · rw [(sortI_perm _).mem_iff]
    simp only [List.mem_map]
    constructor
    · rintro ⟨a, ha, rfl⟩
      exact ⟨a, (mem2 a).2 ((mem a).1 ha), rfl⟩
    · rintro ⟨a, ha, rfl⟩
      exact ⟨a, (mem a).2 ((mem2 a).1 ha), rfl⟩
theorem sum_le {f : Nat → Nat} {c : Nat} (hf : ∀ i, f i ≤ c) : ∀ L : List Nat, (L.map f).sum ≤ c * L.length
  | [] => by simp
  | x :: L => by
    have := sum_le hf L
    have := hf x
    simp only [List.map_cons, List.sum_cons, List.length_cons, Nat.mul_add]
    omega
theorem imp_le (l : List En) (i : Nat) : (impN (cutE (l.take 60)) i).length ≤ 40 := by
  simp only [impN]
  split
  · rename_i e he
    have := List.mem_of_getElem? he
    simp only [cutE, List.mem_map] at this
    obtain ⟨x, _, rfl⟩ := this
    simp only [cut1, List.length_take]; omega
  · simp
theorem todo_le (l : List En) (root : List UInt8) : todo (cutE (l.take 60)) [root] [] ≤ 1000000000 := by
  simp only [todo, List.length_cons, List.length_nil]
  have h1 := sum_le (imp_le l) ((List.range (cutE (l.take 60)).length).filter (fun i => decide (i ∉ ([] : List Nat))))
  have h2 := List.length_filter_le (fun i => decide (i ∉ ([] : List Nat))) (List.range (cutE (l.take 60)).length)
  have h3 : (cutE (l.take 60)).length ≤ 60 := by simp only [cutE, List.length_map, List.length_take]; omega
  simp only [List.length_range] at h2
  omega
/-- ImportsReach. -/
theorem reach_law {H0 : Heap} {l : List En} {vf : Value} (hf : Sli (all H0) H0 l vf) (root : List UInt8) : ∃ H', Cl 17 [.string (bs root), vf] H0 (.bool true) H' ∧ Keep (all H0) H0 H' := by
  have hc := cutE_ok (l := l)
  obtain ⟨H1, va, a1, a2, a3⟩ := cut5_ok hf
  obtain ⟨H2, o, b1, b2, b3, b4⟩ := reach_ok a3 hc root (todo_le l root)
  have K2 := a2.tr b2
  obtain ⟨H3, vb, c1, c2, c3⟩ := cut8_ok (hf.up K2)
  obtain ⟨H4, o', d1, d2, d3, d4⟩ := rreach_ok c3 hc root
  have K24 := c2.tr d2
  have K4 := K2.tr K24
  rw [reach_same] at b4
  have en : (mayN (cutE (l.take 60)) == mayN (cutE (l.take 60))) = true := by simp
  have aw : Cl 8 [] H4 (.bool true) H4 := ⟨1, fun n m h1 _ => by
    obtain ⟨n, rfl⟩ : ∃ k, n = k + 1 := ⟨n - 1, by omega⟩
    exact acall_ext Tryd.func8 (by kernel_rfl) (by kernel_rfl) (g := fun args H => match args with | [] => some (.bool true, H) | _ => none) rfl n [] H4⟩
  have q : Cl 19 [o, o'] H4 (.bool true) H4 := by
    by_cases hm : mayN (cutE (l.take 60)) = 0
    · have x := b4 hm
      have y := d4 hm
      rw [NI_I] at y
      have y : Sl (all H4) H4 1 o' ((reachN root (cutE (l.take 60))).map fun (k : Nat) => (k : Int)).length (I ((reachN root (cutE (l.take 60))).map fun (k : Nat) => (k : Int))) := by simpa using y
      have h3 : (cutE (l.take 60)).length ≤ 60 := by simp only [cutE, List.length_map, List.length_take]; omega
      have hb : (reachN root (cutE (l.take 60))).length ≤ 60 := by
        unfold reachN picks
        have h2 := List.length_filter_le (fun k => decide ((rndF (cutE (l.take 60)) (cutE (l.take 60)).length (start (cutE (l.take 60)) root))[k]? = some true)) (List.range (rndF (cutE (l.take 60)) (cutE (l.take 60)).length (start (cutE (l.take 60)) root)).length)
        have h4 : (start (cutE (l.take 60)) root).length = (cutE (l.take 60)).length := by unfold start; split <;> simp
        have h5 := (rndF_word (l := cutE (l.take 60)) (cutE (l.take 60)).length (start (cutE (l.take 60)) root) h4).1
        simp only [List.length_range] at h2
        omega
      have z := eqi_ok (x.up K24) y (by simp; omega)
      rw [decide_eq_true rfl] at z
      exact z
    · have z := eqi_ok (xs := []) (ys := []) ((b3 hm).up K24) (d3 hm) (by simp)
      exact z
  refine ⟨H4, ?_, K4⟩
  refine Ev.enter (fun n => f17_eq rfl n _ _ _) ?_
  simp only [f17, ruA, ruB, ruC, ruE, ruD, lenStr, Int.reduceBEq, Int.reduceBNe]
  refine Ev.callC a1 ?_
  refine Ev.callC b1 ?_
  simp only [ruA, ruB, ruC, ruE, ruD, lenStr, Int.reduceBEq, Int.reduceBNe]
  refine Ev.callC c1 ?_
  refine Ev.callC d1 ?_
  simp only [ruA, ruB, ruC, ruE, ruD, lenStr, Int.reduceBEq, Int.reduceBNe]
  refine Ev.callC q ?_
  simp only [ruA, ruB, ruC, ruE, ruD, lenStr, Int.reduceBEq, Int.reduceBNe, en]
  refine Ev.callC aw ?_
  exact Ev.pure _
end Go.Eng
