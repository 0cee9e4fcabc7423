/- The law ImportsBehind. -/
import Derived.Test.YtiflkdemlhpibaaDoorJM
import Derived.Test.YtiflkdemlhpibaaDoorJP
set_option linter.unusedVariables false
set_option linter.unusedSimpArgs false
set_option linter.unusedSectionVars false
set_option maxRecDepth 100000
namespace Go.Eng
open Go Go.Proofs

theorem awake_ok (H : Heap) : Cl 8 [] H (.bool true) H := ⟨1, fun n m h1 _ => by
  obtain ⟨n, rfl⟩ : ∃ k, n = k + 1 := ⟨n - 1, by omega⟩
  exact acall_ext Tryd.func8 (by kernel_rfl) (by kernel_rfl) (g := fun args H => match args with | [] => some (.bool true, H) | _ => none) rfl n [] H⟩
theorem lets_len (n : Nat) (zs : List Int) : (lets n zs).length ≤ 6 := by simp only [lets, List.length_map, List.length_take]; omega
theorem netN_ok (l : List (List Int)) : Eok (netN l) := by
  refine ⟨by rw [netN_len]; omega, fun e he => ?_⟩
  simp only [netN, List.mem_map] at he
  obtain ⟨i, _, rfl⟩ := he
  have := lets_len (min l.length 20) (rowOf l i)
  simp only; omega
theorem net_imp (l : List (List Int)) (i : Nat) : (impN (netN l) i).length ≤ 6 := by
  simp only [impN]
  split
  · rename_i e he
    have := List.mem_of_getElem? he
    simp only [netN, List.mem_map] at this
    obtain ⟨x, _, rfl⟩ := this
    exact lets_len _ _
  · simp
theorem net_todo (l : List (List Int)) (root : List UInt8) : todo (netN l) [root] [] ≤ 1000000000 := by
  simp only [todo, List.length_cons, List.length_nil]
  have h1 := sum_le (net_imp l) ((List.range (netN l).length).filter (fun i => decide (i ∉ ([] : List Nat))))
  have h2 := List.length_filter_le (fun i => decide (i ∉ ([] : List Nat))) (List.range (netN l).length)
  have h3 := netN_len l
  simp only [List.length_range] at h2
  omega
theorem mem_cast {xs : List Nat} {k a : Nat} : ((k : Int) ∈ (xs.map fun (k : Nat) => (k : Int)).take a) ↔ k ∈ xs.take a := by
  rw [← List.map_take, List.mem_map]
  constructor
  · rintro ⟨x, hx, e⟩
    have : x = k := by omega
    subst this; exact hx
  · intro h; exact ⟨k, h, rfl⟩
section
variable {H : Heap} {l : List En} {w o q : Value} {s : Dfs} {r : Nat} {p : List UInt8} (hf : Sli (all H) H l w) (hk : Eok l) (hs : DInv l s) (ho : Sl (all H) H 1 o (s.ord.map fun (k : Nat) => (k : Int)).length (I (s.ord.map fun (k : Nat) => (k : Int)))) (hq : Sl (all H) H 1 q (reachI p l).length (I (reachI p l))) (hl32 : s.ord.length ≤ 1000) (hlr : (reachI p l).length ≤ 1000) (hlt : ∀ k ∈ s.ord, k < l.length) (hr : ∀ k ∈ s.ord, (k : Int) ∈ reachI p l)
include hf hk hs ho hq hl32 hlr hlt hr
theorem behind_L1 {i n : Nat} (hi : s.ord[i]? = some n) {e : En} (he : l[n]? = some e) (next : Ev (fun n m => f3_L0 real (AC n) n m w o q (.int .i64 ((i + 1 : Nat) : Int)) H) (.bool true, H)) : ∀ (k j : Nat), j + k = e.I.length →
    Ev3 (fun n' m m' => f3_L1 real (AC n') n' (f3_L0 real (AC n') n' m) m' w o q (.int .i64 (i : Int)) (.int .i64 (n : Int)) (.int .i64 (j : Int)) H) (.bool true, H) := by
  have hI := hk.i e (List.mem_of_getElem? he)
  have hil := (List.getElem?_eq_some_iff.1 hi).1
  obtain ⟨b, oo, wi, a1, a2, a3, a4, a5, _⟩ := en_at hf he
  have him : impN l n = e.I := by simp only [impN, he]
  intro k
  induction k with
  | zero =>
    intro j hj
    refine Ev3.step (fun n m m' => f3_L1.eq_2 _ _ _ _ _ _ _ _ _ _ _ _) ?_
    simp only [ruA, ruB, ruC, ruE, ruD, lenStr, Int.reduceBEq, Int.reduceBNe, a1, a4, a5.lenS, idx_ge (show e.I.length ≤ j by omega), idx_up (show i < 9223372036854775807 by omega)]
    exact Ev3.of next
  | succ k ih =>
    intro j hj
    obtain ⟨p, h1, h2⟩ := drop_at (l := e.I) (i := j) (by omega)
    obtain ⟨a, c1, c2⟩ := a5.at1 (STRL_at h1)
    obtain ⟨t, ht, htm⟩ := (behind_at hs hi).2 p (by rw [him]; exact List.mem_of_getElem? h1)
    have pl := place_ok (p := p) hf hk.n
    rw [ht] at pl
    have hh := has_ok (z := (t : Int)) (a := i) ho (by simp; omega)
    rw [decide_eq_true (mem_cast.2 htm)] at hh
    refine Ev3.step (fun n m m' => f3_L1.eq_2 _ _ _ _ _ _ _ _ _ _ _ _) ?_
    simp only [ruA, ruB, ruC, ruE, ruD, lenStr, Int.reduceBEq, Int.reduceBNe, a1, a4, a5.lenS, idx_lt (show j < e.I.length by omega), c1, c2]
    refine Ev3.callC pl ?_
    simp only [fI]
    refine Ev3.callC hh ?_
    simp only [ruA, ruB, ruC, ruE, ruD, lenStr, Int.reduceBEq, Int.reduceBNe, idx_up (show j < 9223372036854775807 by omega)]
    exact ih (j + 1) (by omega)
theorem behind_L0 : ∀ (k i : Nat), i + k = s.ord.length → Ev (fun n m => f3_L0 real (AC n) n m w o q (.int .i64 (i : Int)) H) (.bool true, H) := by
  have hol : (s.ord.map fun (k : Nat) => (k : Int)).length = s.ord.length := by simp
  have lo : lenS o = some (.int .i64 (s.ord.length : Int)) := by rw [ho.lenS, hol]
  intro k
  induction k with
  | zero =>
    intro i hi
    refine Ev.step (fun n m => f3_L0.eq_2 _ _ _ _ _ _ _ _ _) ?_
    simp only [ruA, ruB, ruC, ruE, ruD, lenStr, Int.reduceBEq, Int.reduceBNe, lo, idx_ge (show s.ord.length ≤ i by omega)]
    refine Ev.callC (awake_ok H) ?_
    exact Ev.pure _
  | succ k ih =>
    intro i hi
    obtain ⟨n, hn⟩ : ∃ n, s.ord[i]? = some n := ⟨_, List.getElem?_eq_getElem (by omega)⟩
    have hnl := hlt n (List.mem_of_getElem? hn)
    obtain ⟨e, he⟩ : ∃ e, l[n]? = some e := ⟨_, List.getElem?_eq_getElem hnl⟩
    obtain ⟨p', a1, a2⟩ := ho.at1 (I_at (i := i) (x := (n : Int)) (by simp [hn]))
    have h1 := has_ok (z := (n : Int)) (a := i) ho (by simp; omega)
    rw [decide_eq_false (fun h => (behind_at hs hn).1 (mem_cast.1 h))] at h1
    have h2 := has_ok (z := (n : Int)) (a := (reachI p l).length) hq (by omega)
    rw [List.take_length, decide_eq_true (hr n (List.mem_of_getElem? hn))] at h2
    have main := (behind_L1 hf hk hs ho hq hl32 hlr hlt hr hn he (ih (i + 1) (by omega)) e.I.length 0 (by omega)).close
    have d1 : decide ((n : Int) < 0) = false := decide_eq_false (by omega)
    have d2 : decide ((n : Int) ≥ (l.length : Int)) = false := decide_eq_false (by omega)
    refine Ev.step (fun n m => f3_L0.eq_2 _ _ _ _ _ _ _ _ _) ?_
    simp only [ruA, ruB, ruC, ruE, ruD, lenStr, Int.reduceBEq, Int.reduceBNe, lo, idx_lt (show i < s.ord.length by omega), a1, a2, d1, hf.lenS, d2]
    refine Ev.callC h1 ?_
    simp only [ruA, ruB, ruC, ruE, ruD, lenStr, Int.reduceBEq, Int.reduceBNe, hq.lenS]
    refine Ev.callC h2 ?_
    simp only [ruA, ruB, ruC, ruE, ruD, lenStr, Int.reduceBEq, Int.reduceBNe]
    exact main
end
/-- ImportsBehind. -/
theorem behind_law {H0 : Heap} {l : List (List Int)} {v : Value} (hf : Sli (all H0) H0 l v) {z : Int} (hz : inI z) : ∃ H', Cl 3 [v, .int .i64 z] H0 (.bool true) H' ∧ Keep (all H0) H0 H' := by
  obtain ⟨H1, w, a1, a2, a3⟩ := net_ok hf
  have hk := netN_ok l
  have hd := netN_dist l
  have hln := netN_len l
  have hm := may_small hd (by omega)
  by_cases h0 : (netN l).length = 0
  · refine ⟨H1, ?_, a2⟩
    refine Ev.enter (fun n => f3_eq rfl n _ _ _) ?_
    have e0 : (((netN l).length : Int) == 0) = true := by rw [h0]; rfl
    simp only [f3, ruA, ruB, ruC, ruE, ruD, lenStr, Int.reduceBEq, Int.reduceBNe]
    refine Ev.callC a1 ?_
    simp only [ruA, ruB, ruC, ruE, ruD, lenStr, Int.reduceBEq, Int.reduceBNe, a3.lenS, e0]
    refine Ev.callC (awake_ok H1) ?_
    exact Ev.pure _
  · have e0 : (((netN l).length : Int) == 0) = false := beq_eq_false_iff_ne.2 (by omega)
    have c1 := bring_ok (i := z) (n := ((netN l).length : Int)) hz (by omega) H1
    have br := bring_nat (i := z) (n := (netN l).length) (by omega)
    rw [br.1] at c1
    generalize (bringN z ((netN l).length : Int)).toNat = r at *
    obtain ⟨e, he⟩ : ∃ e, (netN l)[r]? = some e := ⟨_, List.getElem?_eq_getElem br.2⟩
    obtain ⟨b, o, wi, d1, _, d3⟩ := en_at0 a3 he
    obtain ⟨H2, ov, f1, f2, f3⟩ := order_ok a3 hk e.P
    obtain ⟨H3, qv, g1, g2, _, g3⟩ := reach_ok (a3.up f2) hk e.P (net_todo l e.P)
    have g3 := g3 hm
    rw [hm] at g1
    rw [reach_same] at g3
    have K := (a2.tr f2).tr g2
    have ez : ((0 : Int) != 0) = false := rfl
    have ezz : ((0 : Int) == 0) = true := rfl
    have p1 := (d3 H1 (Keep.refl _ _)).1
    have p2 := (d3 H2 f2).1
    generalize hor : orderN e.P (netN l) = or at *
    by_cases he0 : or.2.2 = 0
    · obtain ⟨s, s1, s2, s3, m, s4⟩ := ord_good hd (by omega) he (by rw [hor]; exact he0)
      rw [hor] at s2
      rw [s2, NI_I] at f3
      have f3 : Sl (all H3) H3 1 ov (s.ord.map fun (k : Nat) => (k : Int)).length (I (s.ord.map fun (k : Nat) => (k : Int))) := by
        have := f3.up g2
        simpa using this
      have hself := find_self hd he
      have mem : ∀ k, k ∈ s.ord ↔ (k : Int) ∈ reachI e.P (netN l) := fun k => by
        rw [reach_mem, hself, s3]
        constructor
        · intro h; exact ⟨r, rfl, h⟩
        · rintro ⟨i, hi, h⟩; injection hi with hi; subst hi; exact h
      have mem' : ∀ k, k ∈ s.ord ↔ k ∈ reachN e.P (netN l) := fun k => by
        rw [s3]
        have := rnd_root (netN l) e.P k
        unfold reachN
        rw [this, hself]
        constructor
        · intro h; exact ⟨r, rfl, h⟩
        · rintro ⟨i, hi, h⟩; injection hi with hi; subst hi; exact h
      have hlen := reach_len (p := e.P) s1.nod mem'
      have hlt : ∀ k ∈ s.ord, k < (netN l).length := fun k hk' => ((s3 k).1 hk').lt br.2
      have h32 : s.ord.length ≤ 32 := by
        have := dfs_len (netN l) e.P
        rw [hor, s2] at this
        exact this
      have g3' : Sl (all H3) H3 1 qv (reachI e.P (netN l)).length (I (reachI e.P (netN l))) := g3
      have main := (behind_L0 (p := e.P) (a3.up (f2.tr g2)) hk s1 f3 g3' (by omega) (by omega) hlt (fun k hk' => (mem k).1 hk') s.ord.length 0 (by omega)).loop
      have lo : lenS ov = some (.int .i64 (s.ord.length : Int)) := by rw [f3.lenS]; simp
      have lq : lenS qv = some (.int .i64 (s.ord.length : Int)) := by rw [g3'.lenS, hlen]
      have hpos : s.ord.length = m.length + 1 := by rw [s4]; simp
      have last : s.ord[s.ord.length - 1]? = some r := by rw [s4]; simp
      obtain ⟨pa, l1, l2⟩ := f3.at1 (I_at (i := s.ord.length - 1) (x := (r : Int)) (by simp only [List.getElem?_map, last, Option.map_some]))
      have es : IntKind.i64.wrap ((s.ord.length : Int) - 1) = ((s.ord.length - 1 : Nat) : Int) := by rw [wrap_i64 (by omega) (by omega)]; omega
      have en : (((s.ord.length : Nat) : Int) == 0) = false := beq_eq_false_iff_ne.2 (by omega)
      have err : ((r : Int) != (r : Int)) = false := by simp
      refine ⟨H3, ?_, K⟩
      refine Ev.enter (fun n => f3_eq rfl n _ _ _) ?_
      simp only [Eng.f3, ruA, ruB, ruC, ruE, ruD, lenStr, Int.reduceBEq, Int.reduceBNe]
      refine Ev.callC a1 ?_
      simp only [ruA, ruB, ruC, ruE, ruD, lenStr, Int.reduceBEq, Int.reduceBNe, a3.lenS, e0]
      refine Ev.callC c1 ?_
      simp only [ruA, ruB, ruC, ruE, ruD, lenStr, Int.reduceBEq, Int.reduceBNe, d1, p1, Nat.add_zero]
      refine Ev.callC f1 ?_
      simp only [ruA, ruB, ruC, ruE, ruD, lenStr, Int.reduceBEq, Int.reduceBNe, d1, p2, Nat.add_zero]
      refine Ev.callC g1 ?_
      simp only [ruA, ruB, ruC, ruE, ruD, lenStr, Int.reduceBEq, Int.reduceBNe, he0, ez, lo, lq, en, es, l1, l2, err]
      exact main
    · have hb := ord_bad (l := netN l) (p := e.P) (by rw [hor]; exact he0)
      rw [hor] at hb
      rw [hb] at f3
      have lo : lenS ov = some (.int .i64 0) := f3.lenS
      have e1 : (or.2.2 != 0) = true := by simpa using he0
      refine ⟨H3, ?_, K⟩
      refine Ev.enter (fun n => f3_eq rfl n _ _ _) ?_
      simp only [Eng.f3, ruA, ruB, ruC, ruE, ruD, lenStr, Int.reduceBEq, Int.reduceBNe]
      refine Ev.callC a1 ?_
      simp only [ruA, ruB, ruC, ruE, ruD, lenStr, Int.reduceBEq, Int.reduceBNe, a3.lenS, e0]
      refine Ev.callC c1 ?_
      simp only [ruA, ruB, ruC, ruE, ruD, lenStr, Int.reduceBEq, Int.reduceBNe, d1, p1, Nat.add_zero]
      refine Ev.callC f1 ?_
      simp only [ruA, ruB, ruC, ruE, ruD, lenStr, Int.reduceBEq, Int.reduceBNe, d1, p2, Nat.add_zero]
      refine Ev.callC g1 ?_
      simp only [ruA, ruB, ruC, ruE, ruD, lenStr, Int.reduceBEq, Int.reduceBNe, e1, lo, ezz]
      refine Ev.callC (awake_ok H3) ?_
      exact Ev.pure _
end Go.Eng
