/- Are two files the same? -/
import Derived.Test.YtmfbebfpeimflaaDoorGAA
set_option linter.unusedVariables false
set_option linter.unusedSimpArgs false
set_option linter.unusedSectionVars false
set_option maxRecDepth 100000
namespace Go.Eng
open Go Go.Proofs

theorem bs_beq {x y : List UInt8} : ((bs x).toList == (bs y).toList) = decide (x = y) := by
  rw [bs_seq, bs_seq, Bool.eq_iff_iff]; simp
theorem i_neq {a b : Nat} : ((a : Int) != (b : Int)) = !decide (a = b) := k_eq
theorem texts_loop {R R' : Nat → Prop} {H : Heap} {xs ys : List (List UInt8)} {v w : Value} (hx : Sl R H 1 v xs.length (STRL xs)) (hy : Sl R' H 1 w ys.length (STRL ys)) (hl : xs.length = ys.length) (hn : xs.length < 9223372036854775807) : ∀ (k i : Nat), i + k = xs.length →
    Ev (fun n m => f21_L0 real (AC n) n m v w (.int .i64 (i : Int)) H) (.bool (decide (xs.drop i = ys.drop i)), H) := by
  intro k
  induction k with
  | zero =>
    intro i hi
    have e1 : xs.drop i = [] := List.drop_eq_nil_of_le (by omega)
    have e2 : ys.drop i = [] := List.drop_eq_nil_of_le (by omega)
    rw [e1, e2]
    refine Ev.step (fun n m => f21_L0.eq_2 _ _ _ _ _ _ _ _) ?_
    simp only [ruA, ruB, ruC, ruE, ruD, lenStr, Int.reduceBEq, Int.reduceBNe, Sl.lenS hx, idx_ge (show xs.length ≤ i by omega)]
    exact Ev.pure _
  | succ k ih =>
    intro i hi
    obtain ⟨x, h1, h2⟩ := drop_at (l := xs) (i := i) (by omega)
    obtain ⟨y, h3, h4⟩ := drop_at (l := ys) (i := i) (by omega)
    obtain ⟨p, a1, a2⟩ := hx.at1 (STRL_at h1)
    obtain ⟨q, a3, a4⟩ := hy.at1 (STRL_at h3)
    refine Ev.step (fun n m => f21_L0.eq_2 _ _ _ _ _ _ _ _) ?_
    simp only [ruA, ruB, ruC, ruE, ruD, lenStr, Int.reduceBEq, Int.reduceBNe, Sl.lenS hx, idx_lt (show i < xs.length by omega), a1, a2, a3, a4, bs_beq]
    rw [h2, h4]
    by_cases hq : x = y
    · simp only [decide_eq_true hq, Bool.not_true, ruA, ruB, ruC, ruE, ruD, lenStr, Int.reduceBEq, Int.reduceBNe, idx_up (show i < 9223372036854775807 by omega), hq, List.cons.injEq, true_and]
      exact ih (i + 1) (by omega)
    · simp only [decide_eq_false hq, Bool.not_false, ruA, ruB, ruC, ruE, ruD, lenStr, Int.reduceBEq, Int.reduceBNe, List.cons.injEq, hq, false_and, decide_false]
      exact Ev.pure _
theorem texts_ok {R R' : Nat → Prop} {H : Heap} {xs ys : List (List UInt8)} {v w : Value} (hx : Sl R H 1 v xs.length (STRL xs)) (hy : Sl R' H 1 w ys.length (STRL ys)) (hn : xs.length < 9223372036854775807) : Cl 21 [v, w] H (.bool (decide (xs = ys))) H := by
  refine Ev.enter (fun n => f21_eq rfl n _ _ _) ?_
  by_cases hl : xs.length = ys.length
  · simp only [f21, ruA, ruB, ruC, ruE, ruD, lenStr, Int.reduceBEq, Int.reduceBNe, Sl.lenS hx, Sl.lenS hy, i_neq, decide_eq_true hl, Bool.not_true]
    have := (texts_loop hx hy hl hn xs.length 0 (by omega)).loop
    simpa using this
  · have e2 : (xs = ys) = False := eq_false (fun h => hl (by rw [h]))
    simp only [f21, ruA, ruB, ruC, ruE, ruD, lenStr, Int.reduceBEq, Int.reduceBNe, Sl.lenS hx, Sl.lenS hy, i_neq, decide_eq_false hl, Bool.not_false, e2, decide_false]
    exact Ev.pure _
theorem al_eq {x y : Al} : (x = y) = (x.P = y.P ∧ x.S = y.S) := by
  cases x; cases y; simp only [Al.mk.injEq]; exact propext And.comm
theorem ways_loop2 {R R' : Nat → Prop} {H : Heap} {xs ys : List Al} {v w : Value} (hx : Sli R H xs v) (hy : Sli R' H ys w) (hl : xs.length = ys.length) (hn : xs.length < 9223372036854775807) (hs : ∀ a ∈ xs, a.S.length < 9223372036854775807) : ∀ (k i : Nat), i + k = xs.length →
    Ev (fun n m => f22_L0 real (AC n) n m v w (.int .i64 (i : Int)) H) (.bool (decide (xs.drop i = ys.drop i)), H) := by
  intro k
  induction k with
  | zero =>
    intro i hi
    have e1 : xs.drop i = [] := List.drop_eq_nil_of_le (by omega)
    have e2 : ys.drop i = [] := List.drop_eq_nil_of_le (by omega)
    rw [e1, e2]
    refine Ev.step (fun n m => f22_L0.eq_2 _ _ _ _ _ _ _ _) ?_
    simp only [ruA, ruB, ruC, ruE, ruD, lenStr, Int.reduceBEq, Int.reduceBNe, Sli.lenS hx, idx_ge (show xs.length ≤ i by omega)]
    exact Ev.pure _
  | succ k ih =>
    intro i hi
    obtain ⟨x, h1, h2⟩ := drop_at (l := xs) (i := i) (by omega)
    obtain ⟨y, h3, h4⟩ := drop_at (l := ys) (i := i) (by omega)
    obtain ⟨b, o, c, a1, _, a2, a3, _⟩ := hx.at h1
    obtain ⟨b', o', c', a1', _, a2', a3', _⟩ := hy.at h3
    obtain ⟨u, rfl, s⟩ := rep_al.1 a2
    obtain ⟨u', rfl, s'⟩ := rep_al.1 a2'
    have a1 : iAddrS 2 v (.int .i64 (i : Int)) = some (ptr b o) := a1
    have a1' : iAddrS 2 w (.int .i64 (i : Int)) = some (ptr b' o') := a1'
    have l0 : ldC (ptr b o) H = some (u, H) := a3 0 _ rfl
    have l1 := a3 1 _ rfl
    have l0' : ldC (ptr b' o') H = some (u', H) := a3' 0 _ rfl
    have l1' := a3' 1 _ rfl
    have hc := texts_ok s s' (hs x (List.mem_of_getElem? h1))
    refine Ev.step (fun n m => f22_L0.eq_2 _ _ _ _ _ _ _ _) ?_
    rw [h2, h4]
    by_cases hq : x.P = y.P
    · simp only [ruA, ruB, ruC, ruE, ruD, lenStr, Int.reduceBEq, Int.reduceBNe, Sli.lenS hx, idx_lt (show i < xs.length by omega), a1, a1', l1, l1', bs_beq, decide_eq_true hq, Bool.not_true, Bool.or_true, l0, l0', Nat.add_zero]
      refine Ev.callC hc ?_
      by_cases hS : x.S = y.S
      · have e : x = y := by rw [al_eq]; exact ⟨hq, hS⟩
        simp only [ruA, ruB, ruC, ruE, ruD, lenStr, Int.reduceBEq, Int.reduceBNe, decide_eq_true hS, Bool.not_true, Bool.or_true, idx_up (show i < 9223372036854775807 by omega), e, List.cons.injEq, true_and]
        exact ih (i + 1) (by omega)
      · have e : (x = y) = False := eq_false (by rw [al_eq]; exact fun h => hS h.2)
        simp only [ruA, ruB, ruC, ruE, ruD, lenStr, Int.reduceBEq, Int.reduceBNe, decide_eq_false hS, Bool.not_false, Bool.or_true, List.cons.injEq, e, false_and, decide_false]
        exact Ev.pure _
    · have e : (x = y) = False := eq_false (by rw [al_eq]; exact fun h => hq h.1)
      simp only [ruA, ruB, ruC, ruE, ruD, lenStr, Int.reduceBEq, Int.reduceBNe, Sli.lenS hx, idx_lt (show i < xs.length by omega), a1, a1', l1, l1', bs_beq, decide_eq_false hq, Bool.not_false, Bool.or_true, Bool.true_or, l0, l0', Nat.add_zero, List.cons.injEq, e, false_and, decide_false]
      exact Ev.pure _
theorem ways_same {R R' : Nat → Prop} {H : Heap} {xs ys : List Al} {v w : Value} (hx : Sli R H xs v) (hy : Sli R' H ys w) (hn : xs.length < 9223372036854775807) (hs : ∀ a ∈ xs, a.S.length < 9223372036854775807) : Cl 22 [v, w] H (.bool (decide (xs = ys))) H := by
  refine Ev.enter (fun n => f22_eq rfl n _ _ _) ?_
  by_cases hl : xs.length = ys.length
  · simp only [f22, ruA, ruB, ruC, ruE, ruD, lenStr, Int.reduceBEq, Int.reduceBNe, Sli.lenS hx, Sli.lenS hy, i_neq, decide_eq_true hl, Bool.not_true]
    have := (ways_loop2 hx hy hl hn hs xs.length 0 (by omega)).loop
    simpa using this
  · have e2 : (xs = ys) = False := eq_false (fun h => hl (by rw [h]))
    simp only [f22, ruA, ruB, ruC, ruE, ruD, lenStr, Int.reduceBEq, Int.reduceBNe, Sli.lenS hx, Sli.lenS hy, i_neq, decide_eq_false hl, Bool.not_false, e2, decide_false]
    exact Ev.pure _

/-! ### terms as keys -/
theorem lits_str {d : Nat} {s : List UInt8} (h : s.length ≤ 1000000000000) : Tryd.prog.keyLits (d + 1) 9 [.string (bs s)] = some [.string s] := by
  have e : Tryd.prog.underlying 9 = some .string := Tryd.underlying9
  have hl : (bs s).size ≤ Go.maxLen := by rw [bs_size]; unfold Go.maxLen; omega
  simp only [Program.keyLits, e, hl, if_true, bs_list]
theorem lits_bool {d : Nat} {x : Bool} : Tryd.prog.keyLits (d + 1) 4 [.bool x] = some [.bool x] := by
  have e : Tryd.prog.underlying 4 = some .bool := Tryd.underlying4
  simp only [Program.keyLits, e]
theorem cells9 : Tryd.prog.cellsOf 9 = 1 := by kernel_rfl
theorem cells4 : Tryd.prog.cellsOf 4 = 1 := by kernel_rfl
theorem cells41 : Tryd.prog.cellsOf 41 = 3 := by kernel_rfl
theorem lits_tm {d : Nat} {a b : List UInt8} {c : Bool} (ha : a.length ≤ 1000000000000) (hb : b.length ≤ 1000000000000) : Tryd.prog.keyLits (d + 2) 41 [.string (bs a), .string (bs b), .bool c] = some [.string a, .string b, .bool c] := by
  obtain ⟨fs, hu, hfs, hn⟩ : ∃ fs : Array Field, Tryd.prog.underlying 41 = some (.struct fs) ∧ fs.toList.map (fun f => (f.type, f.offset)) = [(9, 0), (9, 1), (4, 2)] ∧ fs.all (·.name != "_") = true := ⟨_, Tryd.underlying41, by kernel_rfl, by kernel_rfl⟩
  rw [keyLits_struct hu]
  simp only [cells41, hn, List.length_cons, List.length_nil, and_self, if_true]
  have : ∀ (l : List Field) (ps : List (TypeId × Nat)), l.map (fun f => (f.type, f.offset)) = ps → (l.mapM fun f => Tryd.prog.keyLits (d + 1) f.type (([.string (bs a), .string (bs b), .bool c] : List Value).drop f.offset |>.take (Tryd.prog.cellsOf f.type))) = ps.mapM fun p => Tryd.prog.keyLits (d + 1) p.1 (([.string (bs a), .string (bs b), .bool c] : List Value).drop p.2 |>.take (Tryd.prog.cellsOf p.1)) := by
    intro l ps h; subst h; rw [List.mapM_map]; rfl
  rw [this _ _ hfs]
  simp [cells9, cells4, lits_str ha, lits_str hb, lits_bool]
def smallT (t : Tm) : Prop := t.N.length ≤ 1000000000000 ∧ t.P.length ≤ 1000000000000
theorem tm_eq {x y : Tm} : x = y ↔ x.N = y.N ∧ x.P = y.P ∧ x.S = y.S := by
  cases x; cases y; simp only [Tm.mk.injEq]
theorem b_tm {x y : Tm} (hx : smallT x) (hy : smallT y) : eqV Tryd.prog 41 (.agg #[.string (bs x.N), .string (bs x.P), .bool x.S]) (.agg #[.string (bs y.N), .string (bs y.P), .bool y.S]) = some (decide (x = y)) := by
  have h := eqA_of (q := x = y) (P := Tryd.prog) (t := 41) (m := 8) (xs := [.string (bs x.N), .string (bs x.P), .bool x.S]) (ys := [.string (bs y.N), .string (bs y.P), .bool y.S]) (by decide) (by kernel_rfl) (by kernel_rfl) (by kernel_rfl) (by kernel_rfl) rfl rfl cells41.symm cells41.symm
    (lits_tm (d := Tryd.prog.types.size - 1) hx.1 hx.2) (lits_tm (d := Tryd.prog.types.size - 1) hy.1 hy.2) (by rw [tm_eq]; simp)
  unfold eqV
  rw [Tryd.underlying41]
  exact h
theorem b_tmneq {x y : Tm} (hx : smallT x) (hy : smallT y) : binB Tryd.prog .neq 41 (.agg #[.string (bs x.N), .string (bs x.P), .bool x.S]) (.agg #[.string (bs y.N), .string (bs y.P), .bool y.S]) = some (.bool (!decide (x = y))) := by
  simp only [binB, b_tm hx hy, Option.map_some]

/-! ### files -/
/-- All lengths are small. -/
structure Fok (f : Fl) : Prop where
  i : f.I.length < 9223372036854775807
  t : f.T.length < 9223372036854775807
  p : f.P.length < 9223372036854775807
  r : f.R.length < 9223372036854775807
  ts : ∀ x ∈ f.T, smallT x
  ps : ∀ x ∈ f.P, x.N.length < 9223372036854775807
  rs : ∀ x ∈ f.R, x.A.length < 9223372036854775807 ∧ ∀ a ∈ x.A, a.S.length < 9223372036854775807
section
variable {H : Heap} {f g : Fl} {q q' : Nat} {cs ds : List Value} (hq : H.get q = some ⟨cs, 1, true⟩) (hq' : H.get q' = some ⟨ds, 1, true⟩) (hf : Rp.rep (all H) H f cs) (hg : Rp.rep (all H) H g ds) (ff : Fok f) (fg : Fok g)
include hq hq' hf hg ff fg
theorem same_L2 (hl : f.R.length = g.R.length) : ∀ (k i : Nat), i + k = f.R.length → Ev (fun n m => f10_L2 real (AC n) n m (ptr q 0) (ptr q' 0) (.int .i64 (i : Int)) H) (.bool (decide (f.R.drop i = g.R.drop i)), H) := by
  obtain ⟨vI, vT, vP, vR, rfl, i1, i2, i3, i4⟩ := rep_fl.1 hf
  obtain ⟨wI, wT, wP, wR, rfl, j1, j2, j3, j4⟩ := rep_fl.1 hg
  have l4 : ldC (ptr q 4) H = some (vR, H) := Box.ld (R := fun _ => True) ⟨trivial, _, _, hq⟩ rfl
  have l4' : ldC (ptr q' 4) H = some (wR, H) := Box.ld (R := fun _ => True) ⟨trivial, _, _, hq'⟩ rfl
  have hn := ff.r
  intro k
  induction k with
  | zero =>
    intro i hi
    have e1 : f.R.drop i = [] := List.drop_eq_nil_of_le (by omega)
    have e2 : g.R.drop i = [] := List.drop_eq_nil_of_le (by omega)
    rw [e1, e2]
    refine Ev.step (fun n m => f10_L2.eq_2 _ _ _ _ _ _ _ _) ?_
    simp only [ruA, ruB, ruC, ruE, ruD, lenStr, Int.reduceBEq, Int.reduceBNe, l4, Sli.lenS i4, idx_ge (show f.R.length ≤ i by omega)]
    exact Ev.pure _
  | succ k ih =>
    intro i hi
    obtain ⟨x, h1, h2⟩ := drop_at (l := f.R) (i := i) (by omega)
    obtain ⟨y, h3, h4⟩ := drop_at (l := g.R) (i := i) (by omega)
    obtain ⟨b, o, c, a1, _, a2, a3, _⟩ := i4.at h1
    obtain ⟨b', o', c', a1', _, a2', a3', _⟩ := j4.at h3
    obtain ⟨u, rfl, s⟩ := rep_rl.1 a2
    obtain ⟨u', rfl, s'⟩ := rep_rl.1 a2'
    have a1 : iAddrS 2 vR (.int .i64 (i : Int)) = some (ptr b o) := a1
    have a1' : iAddrS 2 wR (.int .i64 (i : Int)) = some (ptr b' o') := a1'
    have l0 : ldC (ptr b o) H = some (.string (bs x.N), H) := a3 0 _ rfl
    have l1 := a3 1 _ rfl
    have l0' : ldC (ptr b' o') H = some (.string (bs y.N), H) := a3' 0 _ rfl
    have l1' := a3' 1 _ rfl
    have hr := ff.rs x (List.mem_of_getElem? h1)
    have hc := ways_same s s' hr.1 hr.2
    have re : (x = y) = (x.N = y.N ∧ x.A = y.A) := by cases x; cases y; simp only [Rl.mk.injEq]
    refine Ev.step (fun n m => f10_L2.eq_2 _ _ _ _ _ _ _ _) ?_
    rw [h2, h4]
    by_cases hN : x.N = y.N
    · simp only [ruA, ruB, ruC, ruE, ruD, lenStr, Int.reduceBEq, Int.reduceBNe, l4, l4', Sli.lenS i4, idx_lt (show i < f.R.length by omega), a1, a1', l0, l0', bs_beq, decide_eq_true hN, Bool.not_true, Bool.or_true, l1, l1', Nat.add_zero]
      refine Ev.callC hc ?_
      by_cases hS : x.A = y.A
      · have e : x = y := by rw [re]; exact ⟨hN, hS⟩
        simp only [ruA, ruB, ruC, ruE, ruD, lenStr, Int.reduceBEq, Int.reduceBNe, decide_eq_true hS, Bool.not_true, Bool.or_true, idx_up (show i < 9223372036854775807 by omega), e, List.cons.injEq, true_and]
        exact ih (i + 1) (by omega)
      · have e : (x = y) = False := eq_false (by rw [re]; exact fun h => hS h.2)
        simp only [ruA, ruB, ruC, ruE, ruD, lenStr, Int.reduceBEq, Int.reduceBNe, decide_eq_false hS, Bool.not_false, Bool.or_true, List.cons.injEq, e, false_and, decide_false]
        exact Ev.pure _
    · have e : (x = y) = False := eq_false (by rw [re]; exact fun h => hN h.1)
      simp only [ruA, ruB, ruC, ruE, ruD, lenStr, Int.reduceBEq, Int.reduceBNe, l4, l4', Sli.lenS i4, idx_lt (show i < f.R.length by omega), a1, a1', l0, l0', bs_beq, decide_eq_false hN, Bool.not_false, Bool.or_true, Bool.true_or, l1, l1', Nat.add_zero, List.cons.injEq, e, false_and, decide_false]
      exact Ev.pure _
theorem same_L1 (hl : f.P.length = g.P.length) (hl2 : f.R.length = g.R.length) : ∀ (k i : Nat), i + k = f.P.length → Ev (fun n m => f10_L1 real (AC n) n m (ptr q 0) (ptr q' 0) (.int .i64 (i : Int)) H) (.bool (decide (f.P.drop i = g.P.drop i ∧ f.R = g.R)), H) := by
  have next := (same_L2 hq hq' hf hg ff fg hl2 f.R.length 0 (by omega)).loop
  rw [List.drop_zero, List.drop_zero] at next
  obtain ⟨vI, vT, vP, vR, rfl, i1, i2, i3, i4⟩ := rep_fl.1 hf
  obtain ⟨wI, wT, wP, wR, rfl, j1, j2, j3, j4⟩ := rep_fl.1 hg
  have l4 : ldC (ptr q 3) H = some (vP, H) := Box.ld (R := fun _ => True) ⟨trivial, _, _, hq⟩ rfl
  have l4' : ldC (ptr q' 3) H = some (wP, H) := Box.ld (R := fun _ => True) ⟨trivial, _, _, hq'⟩ rfl
  have hn := ff.p
  intro k
  induction k with
  | zero =>
    intro i hi
    have e1 : f.P.drop i = [] := List.drop_eq_nil_of_le (by omega)
    have e2 : g.P.drop i = [] := List.drop_eq_nil_of_le (by omega)
    rw [e1, e2]
    refine Ev.step (fun n m => f10_L1.eq_2 _ _ _ _ _ _ _ _) ?_
    simp only [ruA, ruB, ruC, ruE, ruD, lenStr, Int.reduceBEq, Int.reduceBNe, l4, Sli.lenS i3, idx_ge (show f.P.length ≤ i by omega), true_and]
    exact next
  | succ k ih =>
    intro i hi
    obtain ⟨x, h1, h2⟩ := drop_at (l := f.P) (i := i) (by omega)
    obtain ⟨y, h3, h4⟩ := drop_at (l := g.P) (i := i) (by omega)
    obtain ⟨b, o, c, a1, _, a2, a3, _⟩ := i3.at h1
    obtain ⟨b', o', c', a1', _, a2', a3', _⟩ := j3.at h3
    obtain ⟨u, rfl, _, s⟩ := rep_pr.1 a2
    obtain ⟨u', rfl, _, s'⟩ := rep_pr.1 a2'
    have a1 : iAddrS 2 vP (.int .i64 (i : Int)) = some (ptr b o) := a1
    have a1' : iAddrS 2 wP (.int .i64 (i : Int)) = some (ptr b' o') := a1'
    have l0 : ldC (ptr b o) H = some (.int .i64 x.K, H) := a3 0 _ rfl
    have l1 := a3 1 _ rfl
    have l0' : ldC (ptr b' o') H = some (.int .i64 y.K, H) := a3' 0 _ rfl
    have l1' := a3' 1 _ rfl
    have hr := ff.ps x (List.mem_of_getElem? h1)
    have hc := texts_ok s s' hr
    have re : (x = y) = (x.K = y.K ∧ x.N = y.N) := by cases x; cases y; simp only [Pr.mk.injEq]
    refine Ev.step (fun n m => f10_L1.eq_2 _ _ _ _ _ _ _ _) ?_
    rw [h2, h4]
    by_cases hN : x.K = y.K
    · have hk : (x.K != y.K) = false := by simp [hN]
      simp only [ruA, ruB, ruC, ruE, ruD, lenStr, Int.reduceBEq, Int.reduceBNe, l4, l4', Sli.lenS i3, idx_lt (show i < f.P.length by omega), a1, a1', l0, l0', hk, Bool.or_true, l1, l1', Nat.add_zero]
      refine Ev.callC hc ?_
      by_cases hS : x.N = y.N
      · have e : x = y := by rw [re]; exact ⟨hN, hS⟩
        simp only [ruA, ruB, ruC, ruE, ruD, lenStr, Int.reduceBEq, Int.reduceBNe, decide_eq_true hS, Bool.not_true, Bool.or_true, idx_up (show i < 9223372036854775807 by omega), e, List.cons.injEq, true_and]
        exact ih (i + 1) (by omega)
      · have e : (x = y) = False := eq_false (by rw [re]; exact fun h => hS h.2)
        simp only [ruA, ruB, ruC, ruE, ruD, lenStr, Int.reduceBEq, Int.reduceBNe, decide_eq_false hS, Bool.not_false, Bool.or_true, List.cons.injEq, e, false_and, decide_false]
        exact Ev.pure _
    · have e : (x = y) = False := eq_false (by rw [re]; exact fun h => hN h.1)
      have hk : (x.K != y.K) = true := by simp [hN]
      simp only [ruA, ruB, ruC, ruE, ruD, lenStr, Int.reduceBEq, Int.reduceBNe, l4, l4', Sli.lenS i3, idx_lt (show i < f.P.length by omega), a1, a1', l0, l0', hk, Bool.or_true, Bool.true_or, l1, l1', Nat.add_zero, List.cons.injEq, e, false_and, decide_false]
      exact Ev.pure _
theorem same_L0 (hl0 : f.T.length = g.T.length) (hl : f.P.length = g.P.length) (hl2 : f.R.length = g.R.length) : ∀ (k i : Nat), i + k = f.T.length → Ev (fun n m => f10_L0 real (AC n) n m (ptr q 0) (ptr q' 0) (.int .i64 (i : Int)) H) (.bool (decide (f.T.drop i = g.T.drop i ∧ f.P = g.P ∧ f.R = g.R)), H) := by
  have next := (same_L1 hq hq' hf hg ff fg hl hl2 f.P.length 0 (by omega)).loop
  rw [List.drop_zero, List.drop_zero] at next
  obtain ⟨vI, vT, vP, vR, rfl, i1, i2, i3, i4⟩ := rep_fl.1 hf
  obtain ⟨wI, wT, wP, wR, rfl, j1, j2, j3, j4⟩ := rep_fl.1 hg
  have l4 : ldC (ptr q 2) H = some (vT, H) := Box.ld (R := fun _ => True) ⟨trivial, _, _, hq⟩ rfl
  have l4' : ldC (ptr q' 2) H = some (wT, H) := Box.ld (R := fun _ => True) ⟨trivial, _, _, hq'⟩ rfl
  have hn := ff.t
  intro k
  induction k with
  | zero =>
    intro i hi
    have e1 : f.T.drop i = [] := List.drop_eq_nil_of_le (by omega)
    have e2 : g.T.drop i = [] := List.drop_eq_nil_of_le (by omega)
    rw [e1, e2]
    refine Ev.step (fun n m => f10_L0.eq_2 _ _ _ _ _ _ _ _) ?_
    simp only [ruA, ruB, ruC, ruE, ruD, lenStr, Int.reduceBEq, Int.reduceBNe, l4, Sli.lenS i2, idx_ge (show f.T.length ≤ i by omega), true_and]
    exact next
  | succ k ih =>
    intro i hi
    obtain ⟨x, h1, h2⟩ := drop_at (l := f.T) (i := i) (by omega)
    obtain ⟨y, h3, h4⟩ := drop_at (l := g.T) (i := i) (by omega)
    obtain ⟨b, o, c, a1, _, a2, _, a3⟩ := i2.at h1
    obtain ⟨b', o', c', a1', _, a2', _, a3'⟩ := j2.at h3
    obtain rfl := rep_tm.1 a2
    obtain rfl := rep_tm.1 a2'
    have a1 : iAddrS 3 vT (.int .i64 (i : Int)) = some (ptr b o) := a1
    have a1' : iAddrS 3 wT (.int .i64 (i : Int)) = some (ptr b' o') := a1'
    have a3 : Eng.ldA 3 (ptr b o) H = some (.agg #[.string (bs x.N), .string (bs x.P), .bool x.S], H) := a3
    have a3' : Eng.ldA 3 (ptr b' o') H = some (.agg #[.string (bs y.N), .string (bs y.P), .bool y.S], H) := a3'
    have hc := b_tmneq (ff.ts x (List.mem_of_getElem? h1)) (fg.ts y (List.mem_of_getElem? h3))
    refine Ev.step (fun n m => f10_L0.eq_2 _ _ _ _ _ _ _ _) ?_
    rw [h2, h4]
    by_cases hN : x = y
    · subst hN
      have hc' : binB Tryd.prog .neq 41 (.agg #[.string (bs x.N), .string (bs x.P), .bool x.S]) (.agg #[.string (bs x.N), .string (bs x.P), .bool x.S]) = some (.bool false) := by rw [hc]; simp
      simp only [ruA, ruB, ruC, ruE, ruD, lenStr, Int.reduceBEq, Int.reduceBNe, l4, l4', Sli.lenS i2, idx_lt (show i < f.T.length by omega), a1, a1', a3, a3', hc', idx_up (show i < 9223372036854775807 by omega), Nat.add_zero, List.cons.injEq, true_and]
      exact ih (i + 1) (by omega)
    · simp only [ruA, ruB, ruC, ruE, ruD, lenStr, Int.reduceBEq, Int.reduceBNe, l4, l4', Sli.lenS i2, idx_lt (show i < f.T.length by omega), a1, a1', a3, a3', hc, decide_eq_false hN, Bool.not_false, Nat.add_zero, List.cons.injEq, hN, false_and, decide_false]
      exact Ev.pure _
end
theorem fl_eq {f g : Fl} : (f = g) = (f.I = g.I ∧ f.S = g.S ∧ f.T = g.T ∧ f.P = g.P ∧ f.R = g.R) := by
  cases f; cases g; simp only [Fl.mk.injEq]
/-- Are two files the same? -/
theorem rsame_ok {H : Heap} {f g : Fl} {cs ds : List Value} (hf : Rp.rep (all H) H f cs) (hg : Rp.rep (all H) H g ds) (ff : Fok f) (fg : Fok g) :
    ∃ H', Cl 10 [.agg cs.toArray, .agg ds.toArray] H (.bool (decide (f = g))) H' ∧ Keep (all H) H H' := by
  have k1 : Keep (all H) H (H.push ⟨cs, 1, true⟩) := push_keep
  have n1 : newV (Value.cells (.agg cs.toArray)).toList H = some (ptr H.n 0, H.push ⟨cs, 1, true⟩) := newA (Rp.one hf)
  have g1 : (H.push ⟨cs, 1, true⟩).get H.n = some ⟨cs, 1, true⟩ := push_self
  have m1 : (H.push ⟨cs, 1, true⟩).n = H.n + 1 := push_n
  generalize H.push ⟨cs, 1, true⟩ = H1 at *
  have k2 : Keep (all H1) H1 (H1.push ⟨ds, 1, true⟩) := push_keep
  have n2 : newV (Value.cells (.agg ds.toArray)).toList H1 = some (ptr H1.n 0, H1.push ⟨ds, 1, true⟩) := newA (Rp.one hg)
  have g2 : (H1.push ⟨ds, 1, true⟩).get H1.n = some ⟨ds, 1, true⟩ := push_self
  have g1' : (H1.push ⟨ds, 1, true⟩).get H.n = some ⟨cs, 1, true⟩ := by rw [k2.2 _ (by show H.n < H1.n; omega)]; exact g1
  have K := k1.tr k2
  generalize H1.push ⟨ds, 1, true⟩ = H2 at *
  have hf2 := Rp.up hf K
  have hg2 := Rp.up hg K
  have main := fun a b c => (same_L0 g1' g2 hf2 hg2 ff fg a b c f.T.length 0 (by omega)).loop
  obtain ⟨vI, vT, vP, vR, rfl, i1, i2, i3, i4⟩ := rep_fl.1 hf2
  obtain ⟨wI, wT, wP, wR, rfl, j1, j2, j3, j4⟩ := rep_fl.1 hg2
  have l0 : ldC (ptr H.n 0) H2 = some (vI, H2) := Box.ld (R := fun _ => True) ⟨trivial, _, _, g1'⟩ rfl
  have l1 : ldC (ptr H.n 1) H2 = some (.string (bs f.S), H2) := Box.ld (R := fun _ => True) ⟨trivial, _, _, g1'⟩ rfl
  have l2 : ldC (ptr H.n 2) H2 = some (vT, H2) := Box.ld (R := fun _ => True) ⟨trivial, _, _, g1'⟩ rfl
  have l3 : ldC (ptr H.n 3) H2 = some (vP, H2) := Box.ld (R := fun _ => True) ⟨trivial, _, _, g1'⟩ rfl
  have l4 : ldC (ptr H.n 4) H2 = some (vR, H2) := Box.ld (R := fun _ => True) ⟨trivial, _, _, g1'⟩ rfl
  have m0 : ldC (ptr H1.n 0) H2 = some (wI, H2) := Box.ld (R := fun _ => True) ⟨trivial, _, _, g2⟩ rfl
  have m1 : ldC (ptr H1.n 1) H2 = some (.string (bs g.S), H2) := Box.ld (R := fun _ => True) ⟨trivial, _, _, g2⟩ rfl
  have m2 : ldC (ptr H1.n 2) H2 = some (wT, H2) := Box.ld (R := fun _ => True) ⟨trivial, _, _, g2⟩ rfl
  have m3 : ldC (ptr H1.n 3) H2 = some (wP, H2) := Box.ld (R := fun _ => True) ⟨trivial, _, _, g2⟩ rfl
  have m4 : ldC (ptr H1.n 4) H2 = some (wR, H2) := Box.ld (R := fun _ => True) ⟨trivial, _, _, g2⟩ rfl
  have hc := texts_ok i1 j1 ff.i
  have fe := fl_eq (f := f) (g := g)
  refine ⟨H2, ?_, K⟩
  refine Ev.enter (fun n => f10_eq rfl n _ _ _) ?_
  simp only [f10, ruA, ruB, ruC, ruE, ruD, lenStr, Int.reduceBEq, Int.reduceBNe, n1, n2, l0, m0]
  refine Ev.callC hc ?_
  by_cases h1 : f.I = g.I
  case neg =>
    have e : (f = g) = False := by rw [fe]; exact eq_false fun h => h1 h.1
    simp only [ruA, ruB, ruC, ruE, ruD, lenStr, Int.reduceBEq, Int.reduceBNe, decide_eq_false h1, Bool.not_false, e, decide_false]
    exact Ev.pure _
  by_cases h2 : f.S = g.S
  case neg =>
    have e : (f = g) = False := by rw [fe]; exact eq_false fun h => h2 h.2.1
    simp only [ruA, ruB, ruC, ruE, ruD, lenStr, Int.reduceBEq, Int.reduceBNe, decide_eq_true h1, Bool.not_true, l1, m1, bs_beq, decide_eq_false h2, Bool.not_false, e, decide_false]
    exact Ev.pure _
  by_cases h3 : f.T.length = g.T.length
  case neg =>
    have e : (f = g) = False := by rw [fe]; exact eq_false fun h => h3 (by rw [h.2.2.1])
    simp only [ruA, ruB, ruC, ruE, ruD, lenStr, Int.reduceBEq, Int.reduceBNe, decide_eq_true h1, Bool.not_true, l1, m1, bs_beq, decide_eq_true h2, l2, m2, Sli.lenS i2, Sli.lenS j2, i_neq, decide_eq_false h3, Bool.not_false, e, decide_false]
    exact Ev.pure _
  by_cases h4 : f.P.length = g.P.length
  case neg =>
    have e : (f = g) = False := by rw [fe]; exact eq_false fun h => h4 (by rw [h.2.2.2.1])
    simp only [ruA, ruB, ruC, ruE, ruD, lenStr, Int.reduceBEq, Int.reduceBNe, decide_eq_true h1, Bool.not_true, l1, m1, bs_beq, decide_eq_true h2, l2, m2, Sli.lenS i2, Sli.lenS j2, i_neq, decide_eq_true h3, l3, m3, Sli.lenS i3, Sli.lenS j3, decide_eq_false h4, Bool.not_false, e, decide_false]
    exact Ev.pure _
  by_cases h5 : f.R.length = g.R.length
  case neg =>
    have e : (f = g) = False := by rw [fe]; exact eq_false fun h => h5 (by rw [h.2.2.2.2])
    simp only [ruA, ruB, ruC, ruE, ruD, lenStr, Int.reduceBEq, Int.reduceBNe, decide_eq_true h1, Bool.not_true, l1, m1, bs_beq, decide_eq_true h2, l2, m2, Sli.lenS i2, Sli.lenS j2, i_neq, decide_eq_true h3, l3, m3, Sli.lenS i3, Sli.lenS j3, decide_eq_true h4, l4, m4, Sli.lenS i4, Sli.lenS j4, decide_eq_false h5, Bool.not_false, e, decide_false]
    exact Ev.pure _
  have e : (f = g) = (f.T = g.T ∧ f.P = g.P ∧ f.R = g.R) := by rw [fe]; simp only [h1, h2, true_and]
  have main := main h3 h4 h5
  rw [List.drop_zero, List.drop_zero] at main
  simp only [ruA, ruB, ruC, ruE, ruD, lenStr, Int.reduceBEq, Int.reduceBNe, decide_eq_true h1, Bool.not_true, l1, m1, bs_beq, decide_eq_true h2, l2, m2, Sli.lenS i2, Sli.lenS j2, i_neq, decide_eq_true h3, l3, m3, Sli.lenS i3, Sli.lenS j3, decide_eq_true h4, l4, m4, Sli.lenS i4, Sli.lenS j4, decide_eq_true h5, e]
  exact main
end Go.Eng
