/- through and Order, of the reference. -/
import Derived.Test.YtiflkdemlhpibaaDoorJF
set_option linter.unusedVariables false
set_option linter.unusedSimpArgs false
set_option linter.unusedSectionVars false
set_option maxRecDepth 100000
namespace Go.Eng
open Go Go.Proofs

theorem i_zero {k : Int} (h : k ≠ 0) : (k == 0) = false := by simpa using h
section
variable {H0 : Heap} {B G D : Nat} {vf : Value} {l : List En} {e : En} {i : Nat} (hn : Eok l)
include hn
/-- Nothing more is done. -/
theorem rth_exit (he : l[i]? = some e) {s : Dfs} {H : Heap} {vo : Value} {r : List UInt8 × Int} (h : WkR H0 H B G D vf vo l s (some r)) (hr : r.2 ≠ 0) {j : Nat} (hj : j ≤ e.I.length) :
    Ev (fun n m => f35_L0 real (AC n) n m (ptr B 0) (.int .i64 (i : Int)) (.int .i64 (j : Int)) H) (.tuple #[], H) := by
  obtain ⟨b, o, w, a1, a4, a3⟩ := en_at0 h.f he
  obtain ⟨a3, a3'⟩ := a3 H h.keep
  have ez : (errI (some r) == 0) = false := i_zero hr
  refine Ev.step (fun n m => f35_L0.eq_2 _ _ _ _ _ _ _ _) ?_
  by_cases hlt : j < e.I.length
  · simp only [ruA, ruB, ruC, ruE, ruD, lenStr, Int.reduceBEq, Int.reduceBNe, h.l0, a1, a3', a4.lenS, idx_lt hlt, h.l6, ez]
    exact Ev.pure _
  · simp only [ruA, ruB, ruC, ruE, ruD, lenStr, Int.reduceBEq, Int.reduceBNe, h.l0, a1, a3', a4.lenS, idx_ge (show e.I.length ≤ j by omega), h.l6, ez]
    exact Ev.pure _
/-- A call of the reference's through. -/
def RhP (H0 : Heap) (B G D : Nat) (vf : Value) (l : List En) (n : Nat) : Prop := ∀ (i : Nat) (s : Dfs) (H : Heap) (vo : Value), WkR H0 H B G D vf vo l s none → s.st[i]? = some 0 → 33 ≤ n + s.many → s.many ≤ 32 → s.ord.length ≤ s.many →
  ∃ H' vo', Cl 35 [ptr B 0, .int .i64 (i : Int)] H (.tuple #[]) H' ∧ WkR H0 H' B G D vf vo' l (dfs l n i s).1 (dfs l n i s).2
theorem rth_loop {n0 : Nat} (ih : RhP H0 B G D vf l n0) (he : l[i]? = some e) : ∀ (k j : Nat) (s : Dfs) (H : Heap) (vo : Value), j + k = e.I.length → WkR H0 H B G D vf vo l s none → (∃ v, s.st[i]? = some v ∧ v ≠ 0) → 33 ≤ n0 + s.many → s.many ≤ 32 → s.ord.length + 1 ≤ s.many →
    ∃ H' vo', Ev (fun n m => f35_L0 real (AC n) n m (ptr B 0) (.int .i64 (i : Int)) (.int .i64 (j : Int)) H) (.tuple #[], H') ∧
      match (goL l (dfs l n0) (e.I.drop j) s).2 with
      | some r => WkR H0 H' B G D vf vo' l (goL l (dfs l n0) (e.I.drop j) s).1 (some r)
      | none => WkR H0 H' B G D vf vo' l ⟨(goL l (dfs l n0) (e.I.drop j) s).1.st.set i 2, (goL l (dfs l n0) (e.I.drop j) s).1.many, (goL l (dfs l n0) (e.I.drop j) s).1.ord ++ [i]⟩ none := by
  have hI := hn.i e (List.mem_of_getElem? he)
  have hi := (List.getElem?_eq_some_iff.1 he).1
  have e0 : ((0 : Int) == 0) = true := rfl
  intro k
  induction k with
  | zero =>
    intro j s H vo hj h hz h33 h32 ho
    have e1 : e.I.drop j = [] := List.drop_eq_nil_of_le (by omega)
    obtain ⟨b, o, w, a1, a4, a3⟩ := en_at0 h.f he
    obtain ⟨a3, a3'⟩ := a3 H h.keep
    obtain ⟨Ha, vo', H1, H2, g1, g2, g3, g4, g5⟩ := h.thru hi hz (by omega)
    refine ⟨H2, vo', ?_, by rw [e1]; exact g5⟩
    have l6 : ldC (ptr B 6) H = some (.int .i64 0, H) := h.l6
    have b1 : bldS 1 1 [.int .i64 0] [(0, 1, .int .i64 (i : Int))] Ha = some (.slice (some ⟨Ha.n, 0, none⟩) 1 1, Ha.push ⟨[.int .i64 (i : Int)], 1, true⟩) := bld1 rfl rfl
    refine Ev.step (fun n m => f35_L0.eq_2 _ _ _ _ _ _ _ _) ?_
    simp only [ruA, ruB, ruC, ruE, ruD, lenStr, Int.reduceBEq, Int.reduceBNe, h.l0, a1, a3', a4.lenS, idx_ge (show e.I.length ≤ j by omega), l6, e0, h.l2, own_at hi, g1, g2, b1, g3, g4]
    exact Ev.pure _
  | succ k ihk =>
    intro j s H vo hj h hz h33 h32 ho
    obtain ⟨p, h1, h2⟩ := drop_at (l := e.I) (i := j) (by omega)
    obtain ⟨b, o, w, a1, a4, a3⟩ := en_at0 h.f he
    obtain ⟨a3, a3'⟩ := a3 H h.keep
    obtain ⟨a, c1, c2⟩ := (a4.keep h.keep).at1 (STRL_at h1)
    have l6 : ldC (ptr B 6) H = some (.int .i64 0, H) := h.l6
    have hf := find_ok (p := p) (h.f.keep h.keep) hn.n
    have up := idx_up (show j < 9223372036854775807 by omega)
    rw [h2]
    cases hq : findN l p with
    | none =>
      rw [hq] at hf
      obtain ⟨H1, H2, g1, g2, g3⟩ := h.wrong p 160
      have r : goL l (dfs l n0) (p :: e.I.drop (j + 1)) s = (s, some (p, 160)) := by simp only [goL, hq]
      rw [r]
      refine ⟨H2, vo, ?_, g3⟩
      have x := rth_exit hn he g3 (by simp) (j := j + 1) (by omega)
      obtain ⟨es, ec⟩ : ∃ H9, H9 = H1 := ⟨_, rfl⟩
      refine Ev.step (fun n m => f35_L0.eq_2 _ _ _ _ _ _ _ _) ?_
      simp only [ruA, ruB, ruC, ruE, ruD, lenStr, Int.reduceBEq, Int.reduceBNe, h.l0, a1, a3', a4.lenS, idx_lt (show j < e.I.length by omega), l6, e0, c1, c2]
      refine Ev.callC hf ?_
      have e1 : decide ((-1 : Int) < 0) = true := rfl
      simp only [ruA, ruB, ruC, ruE, ruD, lenStr, Int.reduceBEq, Int.reduceBNe, fI, e1, g1, g2, f35_J1, up]
      exact x
    | some q =>
      have hql := find_lt hq
      rw [hq] at hf
      have e1 : decide (((q : Nat) : Int) < 0) = false := by simp
      obtain ⟨v, hv'⟩ : ∃ v, s.st[q]? = some v := ⟨_, List.getElem?_eq_getElem (by rw [h.sl]; exact hql)⟩
      have lb := h.bgl hv'
      have ld := h.dnl hv'
      have v2 := h.v2 q v hv'
      by_cases v1 : v = 1
      · subst v1
        obtain ⟨H1, H2, g1, g2, g3⟩ := h.wrong p 161
        have r : goL l (dfs l n0) (p :: e.I.drop (j + 1)) s = (s, some (p, 161)) := by simp only [goL, hq]; rw [if_pos hv']
        rw [r]
        refine ⟨H2, vo, ?_, g3⟩
        have x := rth_exit hn he g3 (by simp) (j := j + 1) (by omega)
        have d1 : decide ((1 : Nat) ≠ 0) = true := rfl
        have d2 : decide ((1 : Nat) = 2) = false := rfl
        rw [d1] at lb
        rw [d2] at ld
        refine Ev.step (fun n m => f35_L0.eq_2 _ _ _ _ _ _ _ _) ?_
        simp only [ruA, ruB, ruC, ruE, ruD, lenStr, Int.reduceBEq, Int.reduceBNe, h.l0, a1, a3', a4.lenS, idx_lt (show j < e.I.length by omega), l6, e0, c1, c2]
        refine Ev.callC hf ?_
        simp only [ruA, ruB, ruC, ruE, ruD, lenStr, Int.reduceBEq, Int.reduceBNe, fI, e1, h.l1, h.l2, own_at hql, lb, ld, g1, g2, f35_J1, up]
        exact x
      · have n1 : ¬ s.st[q]? = some 1 := by rw [hv']; intro h; injection h with h; exact v1 h
        by_cases v3 : v = 2
        · subst v3
          obtain ⟨H', vo', g1, g2⟩ := ihk (j + 1) s H vo (by omega) h hz h33 h32 ho
          have r : goL l (dfs l n0) (p :: e.I.drop (j + 1)) s = goL l (dfs l n0) (e.I.drop (j + 1)) s := by simp only [goL, hq]; rw [if_neg n1, if_pos hv']
          rw [r]
          refine ⟨H', vo', ?_, g2⟩
          have d1 : decide ((2 : Nat) ≠ 0) = true := rfl
          have d2 : decide ((2 : Nat) = 2) = true := rfl
          rw [d1] at lb
          rw [d2] at ld
          refine Ev.step (fun n m => f35_L0.eq_2 _ _ _ _ _ _ _ _) ?_
          simp only [ruA, ruB, ruC, ruE, ruD, lenStr, Int.reduceBEq, Int.reduceBNe, h.l0, a1, a3', a4.lenS, idx_lt (show j < e.I.length by omega), l6, e0, c1, c2]
          refine Ev.callC hf ?_
          simp only [ruA, ruB, ruC, ruE, ruD, lenStr, Int.reduceBEq, Int.reduceBNe, fI, e1, h.l1, h.l2, own_at hql, lb, ld, f35_J1, up]
          exact g1
        · have v0 : v = 0 := by omega
          subst v0
          have n2 : ¬ s.st[q]? = some 2 := by rw [hv']; intro h; injection h with h; omega
          obtain ⟨H1, vo1, d1, d2⟩ := ih q s H vo h hv' h33 h32 (by omega)
          have cn := dfs_cnt l n0 q s h32
          have nz := dfs_nz l n0 q s
          have x1 : decide ((0 : Nat) ≠ 0) = false := rfl
          have x2 : decide ((0 : Nat) = 2) = false := rfl
          rw [x1] at lb
          rw [x2] at ld
          cases hr : (dfs l n0 q s).2 with
          | some r =>
            have hz := dfs_err l n0 q s r hr
            have er : goL l (dfs l n0) (p :: e.I.drop (j + 1)) s = ((dfs l n0 q s).1, some r) := by simp only [goL, hq]; rw [if_neg n1, if_neg n2]; simp only [hr]
            rw [er]
            rw [hr] at d2
            refine ⟨H1, vo1, ?_, d2⟩
            have x := rth_exit hn he d2 hz (j := j + 1) (by omega)
            refine Ev.step (fun n m => f35_L0.eq_2 _ _ _ _ _ _ _ _) ?_
            simp only [ruA, ruB, ruC, ruE, ruD, lenStr, Int.reduceBEq, Int.reduceBNe, h.l0, a1, a3', a4.lenS, idx_lt (show j < e.I.length by omega), l6, e0, c1, c2]
            refine Ev.callC hf ?_
            simp only [ruA, ruB, ruC, ruE, ruD, lenStr, Int.reduceBEq, Int.reduceBNe, fI, e1, h.l1, h.l2, own_at hql, lb, ld]
            refine Ev.callC d1 ?_
            simp only [ruA, ruB, ruC, ruE, ruD, lenStr, Int.reduceBEq, Int.reduceBNe, f35_J1, up]
            exact x
          | none =>
            have er : goL l (dfs l n0) (p :: e.I.drop (j + 1)) s = goL l (dfs l n0) (e.I.drop (j + 1)) (dfs l n0 q s).1 := by simp only [goL, hq]; rw [if_neg n1, if_neg n2]; simp only [hr]
            rw [er]
            rw [hr] at d2
            obtain ⟨cn1, cn2, cn3, cn4⟩ := cn
            obtain ⟨v', z1, z2⟩ := hz
            obtain ⟨H', vo', g1, g2⟩ := ihk (j + 1) (dfs l n0 q s).1 H1 vo1 (by omega) d2 (nz i v' z1 z2) (by omega) cn1 (by omega)
            refine ⟨H', vo', ?_, g2⟩
            refine Ev.step (fun n m => f35_L0.eq_2 _ _ _ _ _ _ _ _) ?_
            simp only [ruA, ruB, ruC, ruE, ruD, lenStr, Int.reduceBEq, Int.reduceBNe, h.l0, a1, a3', a4.lenS, idx_lt (show j < e.I.length by omega), l6, e0, c1, c2]
            refine Ev.callC hf ?_
            simp only [ruA, ruB, ruC, ruE, ruD, lenStr, Int.reduceBEq, Int.reduceBNe, fI, e1, h.l1, h.l2, own_at hql, lb, ld]
            refine Ev.callC d1 ?_
            simp only [ruA, ruB, ruC, ruE, ruD, lenStr, Int.reduceBEq, Int.reduceBNe, f35_J1, up]
            exact g1
/-- A file is gone through, and what it imports: the reference. -/
theorem rthrough_ok : ∀ n, RhP H0 B G D vf l n
  | 0 => fun i s H vo h h0 h33 h32 ho => by omega
  | n0 + 1 => fun i s H vo h h0 h33 h32 ho => by
    have hi : i < l.length := by rw [← h.sl]; exact (List.getElem?_eq_some_iff.1 h0).1
    obtain ⟨e, he⟩ : ∃ e, l[i]? = some e := ⟨_, List.getElem?_eq_getElem hi⟩
    obtain ⟨b, o, w, a1, a4, a3⟩ := en_at0 h.f he
    have hp : pathN l i = e.P := by simp only [pathN, he]
    have him : impN l i = e.I := by simp only [impN, he]
    by_cases hm : 32 ≤ s.many
    · have r : dfs l (n0 + 1) i s = (s, some (e.P, 5)) := by simp only [dfs, if_pos hm, hp]
      rw [r]
      obtain ⟨H1, H2, g1, g2, g3⟩ := h.wrong e.P 5
      refine ⟨H2, vo, ?_, g3⟩
      have e32 : decide ((s.many : Int) ≥ 32) = true := by simp; omega
      refine Ev.enter (fun n => f35_eq rfl n _ _ _) ?_
      simp only [f35, ruA, ruB, ruC, ruE, ruD, lenStr, Int.reduceBEq, Int.reduceBNe, h.l3, e32, h.l0, a1, (a3 H h.keep).1, Nat.add_zero, g1, g2]
      exact Ev.pure _
    · have e32 : decide ((s.many : Int) ≥ 32) = false := by simp; omega
      obtain ⟨H1, c1, c2⟩ := h.count (n := s.many + 1)
      obtain ⟨H2, m1, m2⟩ := c2.mark hi h0
      obtain ⟨H', vo', g1, g2⟩ := rth_loop hn (rthrough_ok n0) he e.I.length 0 _ H2 vo (by omega) m2 ⟨1, by simp [(List.getElem?_eq_some_iff.1 h0).1], by decide⟩ (by simp only; omega) (by simp only; omega) (by simp only; omega)
      have g1 := g1.loop
      have r : dfs l (n0 + 1) i s = match (goL l (dfs l n0) e.I ⟨s.st.set i 1, s.many + 1, s.ord⟩).2 with
        | some r => ((goL l (dfs l n0) e.I ⟨s.st.set i 1, s.many + 1, s.ord⟩).1, some r)
        | none => (⟨(goL l (dfs l n0) e.I ⟨s.st.set i 1, s.many + 1, s.ord⟩).1.st.set i 2, (goL l (dfs l n0) e.I ⟨s.st.set i 1, s.many + 1, s.ord⟩).1.many, (goL l (dfs l n0) e.I ⟨s.st.set i 1, s.many + 1, s.ord⟩).1.ord ++ [i]⟩, none) := by simp only [dfs, if_neg hm, him]; rfl
      have main : Cl 35 [ptr B 0, .int .i64 (i : Int)] H (.tuple #[]) H' := by
        refine Ev.enter (fun n => f35_eq rfl n _ _ _) ?_
        have c1 : stV 1 (ptr B 3) (.int .i64 ((s.many + 1 : Nat) : Int)) H = some (undef, H1) := c1
        simp only [f35, ruA, ruB, ruC, ruE, ruD, lenStr, Int.reduceBEq, Int.reduceBNe, h.l3, e32, idx_up (show s.many < 9223372036854775807 by omega), c1, c2.l1, own_at hi, m1]
        exact g1
      rw [List.drop_zero] at g2
      rw [r]
      cases hr : (goL l (dfs l n0) e.I ⟨s.st.set i 1, s.many + 1, s.ord⟩).2 with
      | some r => rw [hr] at g2; exact ⟨H', vo', main, g2⟩
      | none => rw [hr] at g2; exact ⟨H', vo', main, g2⟩
end
theorem bldV {H : Heap} {v u w : Value} (h1 : Eng.oneC v = true) (h2 : v.cells = #[v]) (h4 : u.cells = #[u]) (h3 : w.cells = #[w]) : bld [.slice none 0 0, .slice none 0 0, .slice none 0 0, .int .i64 0, .slice none 0 0, .string ⟨#[]⟩, .int .i64 0] [(0, 1, v), (1, 1, u), (2, 1, w)] H = some (.agg #[v, u, w, .int .i64 0, .slice none 0 0, .string ⟨#[]⟩, .int .i64 0], H) := by
  simp [bld, fillC, h2, h3, h4, splice]
/-- What of each file comes ahead of it: the reference. -/
theorem rorder_ok {H0 : Heap} {vf : Value} {l : List En} (hf : Sli (all H0) H0 l vf) (hk : Eok l) (root : List UInt8) :
    ∃ H' v, Cl 26 [.string (bs root), vf] H0 (.tuple #[v, .string (bs (orderN root l).2.1), .int .i64 (orderN root l).2.2]) H' ∧ Keep (all H0) H0 H' ∧ Sl (all H') H' 1 v (orderN root l).1.length (NI (orderN root l).1) := by
  have c0 := may_ok hf hk.n
  by_cases hm : mayN l = 0
  case neg =>
    have r : orderN root l = ([], [], mayN l) := by simp only [orderN, if_pos hm]
    rw [r]
    refine ⟨H0, nilS, ?_, Keep.refl _ _, Sl.nil⟩
    refine Ev.enter (fun n => f26_eq rfl n _ _ _) ?_
    have e : (mayN l != 0) = true := by simpa using hm
    simp only [f26, ruA, ruB, ruC, ruE, ruD, lenStr, Int.reduceBEq, Int.reduceBNe]
    refine Ev.callC c0 ?_
    simp only [ruA, ruB, ruC, ruE, ruD, lenStr, Int.reduceBEq, Int.reduceBNe, e]
    exact Ev.pure _
  case pos =>
    have e0 : ((0 : Int) != 0) = false := rfl
    have fi := find_ok (p := root) hf hk.n
    rw [hm] at c0
    cases hr : findN l root with
    | none =>
      rw [hr] at fi
      have r : orderN root l = ([], root, 160) := by simp only [orderN, hr]; rw [if_neg (by simp [hm])]
      rw [r]
      refine ⟨H0, nilS, ?_, Keep.refl _ _, Sl.nil⟩
      refine Ev.enter (fun n => f26_eq rfl n _ _ _) ?_
      have e1 : decide ((-1 : Int) < 0) = true := rfl
      simp only [f26, ruA, ruB, ruC, ruE, ruD, lenStr, Int.reduceBEq, Int.reduceBNe]
      refine Ev.callC c0 ?_
      simp only [ruA, ruB, ruC, ruE, ruD, lenStr, Int.reduceBEq, Int.reduceBNe, e0]
      refine Ev.callC fi ?_
      simp only [ruA, ruB, ruC, ruE, ruD, lenStr, Int.reduceBEq, Int.reduceBNe, fI, e1]
      exact Ev.pure _
    | some i =>
      rw [hr] at fi
      have hi := find_lt hr
      have e1 : decide (((i : Nat) : Int) < 0) = false := by simp
      have t1 := mkB_ok (N := l.length) hk.n (H := H0)
      have k1 : Keep (all H0) H0 (H0.push ⟨BL (List.replicate l.length false), 1, true⟩) := push_keep
      have g1 : (H0.push ⟨BL (List.replicate l.length false), 1, true⟩).get H0.n = some ⟨BL (List.replicate l.length false), 1, true⟩ := push_self
      have n1 : (H0.push ⟨BL (List.replicate l.length false), 1, true⟩).n = H0.n + 1 := push_n
      generalize H0.push ⟨BL (List.replicate l.length false), 1, true⟩ = H1 at *
      have t2 := mkB_ok (N := l.length) hk.n (H := H1)
      have k2 : Keep (all H1) H1 (H1.push ⟨BL (List.replicate l.length false), 1, true⟩) := push_keep
      have g2 : (H1.push ⟨BL (List.replicate l.length false), 1, true⟩).get H1.n = some ⟨BL (List.replicate l.length false), 1, true⟩ := push_self
      have n2 : (H1.push ⟨BL (List.replicate l.length false), 1, true⟩).n = H1.n + 1 := push_n
      generalize H1.push ⟨BL (List.replicate l.length false), 1, true⟩ = H2 at *
      have hv : Eng.oneC vf = true ∧ vf.cells = #[vf] := by obtain ⟨cs, q, _⟩ := hf; exact q.oneC
      have t3 := bldV (H := H2) (v := vf) (u := .slice (some ⟨H0.n, 0, none⟩) l.length l.length) (w := .slice (some ⟨H1.n, 0, none⟩) l.length l.length) hv.1 hv.2 rfl rfl
      have t4 : newV (Value.cells (.agg #[vf, .slice (some ⟨H0.n, 0, none⟩) l.length l.length, .slice (some ⟨H1.n, 0, none⟩) l.length l.length, .int .i64 0, .slice none 0 0, .string ⟨#[]⟩, .int .i64 0])).toList H2 = some (ptr H2.n 0, H2.push ⟨BR vf H0.n H1.n l.length 0 nilS [] 0, 1, true⟩) := newA (cs := BR vf H0.n H1.n l.length 0 nilS [] 0) (by simp only [List.all_cons, hv.1]; rfl)
      have k3 : Keep (all H2) H2 (H2.push ⟨BR vf H0.n H1.n l.length 0 nilS [] 0, 1, true⟩) := push_keep
      have g3 : (H2.push ⟨BR vf H0.n H1.n l.length 0 nilS [] 0, 1, true⟩).get H2.n = some ⟨BR vf H0.n H1.n l.length 0 nilS [] 0, 1, true⟩ := push_self
      have n3 : (H2.push ⟨BR vf H0.n H1.n l.length 0 nilS [] 0, 1, true⟩).n = H2.n + 1 := push_n
      generalize H2.push ⟨BR vf H0.n H1.n l.length 0 nilS [] 0, 1, true⟩ = H3 at *
      have K : Keep (all H0) H0 H3 := (k1.tr k2).tr k3
      have b0 : begun (dfs0 l).st = List.replicate l.length false := by simp [begun, dfs0]
      have b1 : done (dfs0 l).st = List.replicate l.length false := by simp [done, dfs0]
      have w : WkR H0 H3 H2.n H0.n H1.n vf nilS l (dfs0 l) none := by
        refine ⟨K, hf, g3, ?_, ?_, fun k v hv => ?_, by simp [dfs0], Acc.nil, ⟨by omega, by omega⟩, ⟨by omega, by omega⟩, ⟨by omega, by omega⟩, by omega, by omega, by omega, by simp [blkOf], by simp [blkOf], by simp [blkOf]⟩
        · rw [k3.2 _ (by show H0.n < H2.n; omega), k2.2 _ (by show H0.n < H1.n; omega), b0]; exact g1
        · rw [k3.2 _ (by show H1.n < H2.n; omega), b1]; exact g2
        · have := (inv0 l).vals k v hv; exact this
      obtain ⟨H4, vo, d1, d2⟩ := rthrough_ok hk 33 i (dfs0 l) H3 nilS w (by simp [dfs0, hi]) (by simp [dfs0]) (by simp [dfs0]) (by simp [dfs0])
      cases he : (dfs l 33 i (dfs0 l)).2 with
      | some x =>
        rw [he] at d2
        have hz := dfs_err l 33 i _ x he
        have e2 : (errI (some x) != 0) = true := by simpa [errI] using hz
        have r : orderN root l = ([], x.1, x.2) := by simp only [orderN, hr, he]; rw [if_neg (by simp [hm])]
        rw [r]
        refine ⟨H4, nilS, ?_, d2.keep, Sl.nil⟩
        refine Ev.enter (fun n => f26_eq rfl n _ _ _) ?_
        simp only [f26, ruA, ruB, ruC, ruE, ruD, lenStr, Int.reduceBEq, Int.reduceBNe]
        refine Ev.callC c0 ?_
        simp only [ruA, ruB, ruC, ruE, ruD, lenStr, Int.reduceBEq, Int.reduceBNe, e0]
        refine Ev.callC fi ?_
        simp only [ruA, ruB, ruC, ruE, ruD, lenStr, Int.reduceBEq, Int.reduceBNe, fI, e1, hf.lenS, t1, t2, t3, t4]
        refine Ev.callC d1 ?_
        simp only [ruA, ruB, ruC, ruE, ruD, lenStr, Int.reduceBEq, Int.reduceBNe, d2.l6, e2, d2.l5]
        exact Ev.pure _
      | none =>
        rw [he] at d2
        have r : orderN root l = ((dfs l 33 i (dfs0 l)).1.ord, [], 0) := by simp only [orderN, hr, he]; rw [if_neg (by simp [hm])]
        rw [r]
        refine ⟨H4, vo, ?_, d2.keep, d2.ord.sl⟩
        refine Ev.enter (fun n => f26_eq rfl n _ _ _) ?_
        have l6 : ldC (ptr H2.n 6) H4 = some (.int .i64 0, H4) := d2.l6
        simp only [f26, ruA, ruB, ruC, ruE, ruD, lenStr, Int.reduceBEq, Int.reduceBNe]
        refine Ev.callC c0 ?_
        simp only [ruA, ruB, ruC, ruE, ruD, lenStr, Int.reduceBEq, Int.reduceBNe, e0]
        refine Ev.callC fi ?_
        simp only [ruA, ruB, ruC, ruE, ruD, lenStr, Int.reduceBEq, Int.reduceBNe, fI, e1, hf.lenS, t1, t2, t3, t4]
        refine Ev.callC d1 ?_
        simp only [ruA, ruB, ruC, ruE, ruD, lenStr, Int.reduceBEq, Int.reduceBNe, l6, e0, d2.l4]
        exact Ev.pure _
end Go.Eng
