/- Reach, of the reference. -/
import Derived.Test.YtiflkdemlhpibaaDoorJJ
set_option linter.unusedVariables false
set_option linter.unusedSimpArgs false
set_option linter.unusedSectionVars false
set_option maxRecDepth 100000
namespace Go.Eng
open Go Go.Proofs

/-- What is known of the list of marks. -/
structure RG (H0 H : Heap) (G : Nat) (v : List Bool) : Prop where
  keep : Keep (all H0) H0 H
  get : H.get G = some ⟨BL v, 1, true⟩
  lo : H0.n ≤ G
  hi : G < H.n
abbrev GS (G n : Nat) : Value := .slice (some ⟨G, 0, none⟩) n n
section
variable {H0 : Heap} {G : Nat} {vf : Value} {l : List En} (hf : Sli (all H0) H0 l vf) (hk : Eok l)
theorem RG.ld {H : Heap} {v : List Bool} (h : RG H0 H G v) {k : Nat} {b : Bool} (hb : v[k]? = some b) : ldC (ptr G k) H = some (.bool b, H) := own_ld h.get (BL_at hb)
theorem RG.set {H : Heap} {v : List Bool} (h : RG H0 H G v) {k : Nat} (hl : k < v.length) : ∃ H', stV 1 (ptr G k) (.bool true) H = some (undef, H') ∧ RG H0 H' G (v.set k true) := by
  have e := stV1_box (k := k) (w := .bool true) h.get (by simpa using hl) rfl rfl
  rw [BL_set] at e
  exact ⟨_, e, keepU h.keep h.lo, upd_self, h.lo, h.hi⟩
theorem foldJ_no {k : Nat} : ∀ (ps : List (List UInt8)) (v : List Bool), v[k]? ≠ some true → ps.foldl (fun v p => rndJ l k p v) v = v
  | [], v, _ => rfl
  | p :: ps, v, h => by
    have : rndJ l k p v = v := by unfold rndJ; rw [if_neg h]
    simp only [List.foldl_cons, this]
    exact foldJ_no ps v h
include hf hk
theorem rr_L2 {k : Nat} {e : En} (he : l[k]? = some e) {i9 : Value} : ∀ (r j : Nat) (v : List Bool) (H : Heap), j + r = e.I.length → RG H0 H G v → v.length = l.length →
    ∃ H' N, RG H0 H' G ((e.I.drop j).foldl (fun v p => rndJ l k p v) v) ∧ ∀ n m, N ≤ n → N ≤ m → ∀ R0 R1, f28_L2 real (AC n) n R0 R1 m vf (GS G l.length) i9 (.int .i64 (k : Int)) (.int .i64 (j : Int)) H = R1 vf (GS G l.length) i9 (.int .i64 ((k + 1 : Nat) : Int)) H' := by
  have hkl := (List.getElem?_eq_some_iff.1 he).1
  have hI := hk.i e (List.mem_of_getElem? he)
  have hn := hk.n
  obtain ⟨b, o, w, a1, a4, a3⟩ := en_at0 hf he
  have up1 := idx_up (show k < 9223372036854775807 by omega)
  intro r
  induction r with
  | zero =>
    intro j v H hj h hl
    have e1 : e.I.drop j = [] := List.drop_eq_nil_of_le (by omega)
    refine ⟨H, 1, by rw [e1]; exact h, fun n m h1 h2 R0 R1 => ?_⟩
    obtain ⟨m, rfl⟩ : ∃ q, m = q + 1 := ⟨m - 1, by omega⟩
    rw [f28_L2.eq_2]
    simp only [ruA, ruB, ruC, ruE, ruD, lenStr, Int.reduceBEq, Int.reduceBNe, a1, (a3 H h.keep).2, a4.lenS, idx_ge (show e.I.length ≤ j by omega), up1]
  | succ r ih =>
    intro j v H hj h hl
    obtain ⟨bv, hbv⟩ : ∃ bv, v[k]? = some bv := ⟨_, List.getElem?_eq_getElem (by omega)⟩
    have lb := h.ld hbv
    have up := idx_up (show j < 9223372036854775807 by omega)
    obtain ⟨p, h1, h2⟩ := drop_at (l := e.I) (i := j) (by omega)
    obtain ⟨a, c1, c2⟩ := (a4.keep h.keep).at1 (STRL_at h1)
    cases bv with
    | false =>
      refine ⟨H, 1, by rw [foldJ_no _ _ (by rw [hbv]; simp)]; exact h, fun n m h1 h2 R0 R1 => ?_⟩
      obtain ⟨m, rfl⟩ : ∃ q, m = q + 1 := ⟨m - 1, by omega⟩
      rw [f28_L2.eq_2]
      simp only [ruA, ruB, ruC, ruE, ruD, lenStr, Int.reduceBEq, Int.reduceBNe, a1, (a3 H h.keep).2, a4.lenS, idx_lt (show j < e.I.length by omega), own_at hkl, lb, up1]
    | true =>
      obtain ⟨N1, hN1⟩ := find_ok (p := p) (hf.keep h.keep) hn
      have ej : (e.I.drop j).foldl (fun v p => rndJ l k p v) v = (e.I.drop (j + 1)).foldl (fun v p => rndJ l k p v) (match findN l p with | some t => v.set t true | none => v) := by
        rw [h2, List.foldl_cons]
        congr 1
        unfold rndJ
        rw [if_pos hbv]
        rfl
      rw [ej]
      cases hq : findN l p with
      | none =>
        rw [hq] at hN1
        obtain ⟨H', N, g1, g2⟩ := ih (j + 1) v H (by omega) h hl
        refine ⟨H', max N N1 + 1, g1, fun n m x1 x2 R0 R1 => ?_⟩
        obtain ⟨m, rfl⟩ : ∃ q, m = q + 1 := ⟨m - 1, by omega⟩
        rw [f28_L2.eq_2]
        have cf : AC n 34 [vf, .string (bs p)] H = some (.int .i64 (-1), H) := hN1 n n (by omega) (by omega)
        have e1 : decide ((-1 : Int) ≥ 0) = false := rfl
        simp only [ruA, ruB, ruC, ruE, ruD, lenStr, Int.reduceBEq, Int.reduceBNe, a1, (a3 H h.keep).2, a4.lenS, idx_lt (show j < e.I.length by omega), own_at hkl, lb, c1, c2, cf, e1, f28_J1, up]
        exact g2 n m (by omega) (by omega) R0 R1
      | some t =>
        rw [hq] at hN1
        have htl := find_lt hq
        obtain ⟨H1, s1, s2⟩ := h.set (k := t) (by omega)
        obtain ⟨H', N, g1, g2⟩ := ih (j + 1) (v.set t true) H1 (by omega) s2 (by simp [hl])
        refine ⟨H', max N N1 + 1, g1, fun n m x1 x2 R0 R1 => ?_⟩
        obtain ⟨m, rfl⟩ : ∃ q, m = q + 1 := ⟨m - 1, by omega⟩
        rw [f28_L2.eq_2]
        have cf : AC n 34 [vf, .string (bs p)] H = some (.int .i64 (t : Int), H) := hN1 n n (by omega) (by omega)
        have e1 : decide ((t : Int) ≥ 0) = true := decide_eq_true (by omega)
        simp only [ruA, ruB, ruC, ruE, ruD, lenStr, Int.reduceBEq, Int.reduceBNe, a1, (a3 H h.keep).2, a4.lenS, idx_lt (show j < e.I.length by omega), own_at hkl, lb, c1, c2, cf, e1, own_at htl, s1, f28_J1, up]
        exact g2 n m (by omega) (by omega) R0 R1
theorem rr_L1 {i : Nat} (hi : i < 9223372036854775807) : ∀ (r k : Nat) (v : List Bool) (H : Heap), k + r = l.length → RG H0 H G v → v.length = l.length →
    ∃ H' N, RG H0 H' G ((List.range' k r).foldl (fun v k => rndK l k v) v) ∧ ∀ n m, N ≤ n → N ≤ m → ∀ R0, f28_L1 real (AC n) n R0 m vf (GS G l.length) (.int .i64 (i : Int)) (.int .i64 (k : Int)) H = R0 vf (GS G l.length) (.int .i64 ((i + 1 : Nat) : Int)) H' := by
  have hn := hk.n
  intro r
  induction r with
  | zero =>
    intro k v H hr h hl
    refine ⟨H, 1, by simpa using h, fun n m h1 h2 R0 => ?_⟩
    obtain ⟨m, rfl⟩ : ∃ q, m = q + 1 := ⟨m - 1, by omega⟩
    rw [f28_L1.eq_2]
    simp only [ruA, ruB, ruC, ruE, ruD, lenStr, Int.reduceBEq, Int.reduceBNe, hf.lenS, idx_ge (show l.length ≤ k by omega), idx_up hi]
  | succ r ih =>
    intro k v H hr h hl
    obtain ⟨e, he⟩ : ∃ e, l[k]? = some e := ⟨_, List.getElem?_eq_getElem (by omega)⟩
    have him : impN l k = e.I := by simp only [impN, he]
    obtain ⟨H1, N1, a1, a2⟩ := rr_L2 (i9 := .int .i64 (i : Int)) hf hk he e.I.length 0 v H (by omega) h hl
    have ek : (e.I.drop 0).foldl (fun v p => rndJ l k p v) v = rndK l k v := by rw [List.drop_zero]; unfold rndK; rw [him]
    rw [ek] at a1
    have hl1 : (rndK l k v).length = l.length := (rndK_word (l := l) (k := k) (impN l k) v (fun p hp => hp) hl).1
    obtain ⟨H', N, g1, g2⟩ := ih (k + 1) (rndK l k v) H1 (by omega) a1 hl1
    refine ⟨H', max N N1 + 1, by rw [List.range'_succ, List.foldl_cons]; exact g1, fun n m x1 x2 R0 => ?_⟩
    obtain ⟨m, rfl⟩ : ∃ q, m = q + 1 := ⟨m - 1, by omega⟩
    rw [f28_L1.eq_2]
    have a2 := a2 n n (by omega) (by omega) R0 (f28_L1 real (AC n) n R0 m)
    simp only [ruA, ruB, ruC, ruE, ruD, lenStr, Int.reduceBEq, Int.reduceBNe, hf.lenS, idx_lt (show k < l.length by omega)]
    exact a2.trans (g2 n m (by omega) (by omega) R0)
/-- Which ones were found. -/
theorem rr_L3 {v : List Bool} (hl : v.length = l.length) : ∀ (r i : Nat) (H : Heap) (vo : Value), i + r = l.length → RG H0 H G v → Acc (all H0) H 1 vo ((List.range i).filter (fun k => decide (v[k]? = some true))).length (NI ((List.range i).filter (fun k => decide (v[k]? = some true)))) → blkOf vo ≠ some G →
    ∃ H' vo', Ev (fun n m => f28_L3 real (AC n) n m vf (GS G l.length) vo (.int .i64 (i : Int)) H) (.tuple #[vo', .int .i64 0], H') ∧ Keep (all H0) H0 H' ∧ Sl (all H') H' 1 vo' (picks v).length (NI (picks v)) := by
  have hn := hk.n
  have hm : mostBytes = 140737488355328 := rfl
  intro r
  induction r with
  | zero =>
    intro i H vo hr h ha hv
    have ep : picks v = (List.range i).filter (fun k => decide (v[k]? = some true)) := by unfold picks; rw [show v.length = i by omega]
    refine ⟨H, vo, ?_, h.keep, by rw [ep]; exact ha.sl⟩
    refine Ev.step (fun n m => f28_L3.eq_2 _ _ _ _ _ _ _ _ _) ?_
    simp only [ruA, ruB, ruC, ruE, ruD, lenStr, Int.reduceBEq, Int.reduceBNe, hf.lenS, idx_ge (show l.length ≤ i by omega)]
    exact Ev.pure _
  | succ r ih =>
    intro i H vo hr h ha hv
    obtain ⟨bv, hbv⟩ : ∃ bv, v[i]? = some bv := ⟨_, List.getElem?_eq_getElem (by omega)⟩
    have lb := h.ld hbv
    have up := idx_up (show i < 9223372036854775807 by omega)
    cases bv with
    | false =>
      have ef : (List.range (i + 1)).filter (fun k => decide (v[k]? = some true)) = (List.range i).filter (fun k => decide (v[k]? = some true)) := by
        rw [List.range_succ, List.filter_append]
        simp [hbv]
      obtain ⟨H', vo', g1, g2, g3⟩ := ih (i + 1) H vo (by omega) h (by rw [ef]; exact ha) hv
      refine ⟨H', vo', ?_, g2, g3⟩
      refine Ev.step (fun n m => f28_L3.eq_2 _ _ _ _ _ _ _ _ _) ?_
      simp only [ruA, ruB, ruC, ruE, ruD, lenStr, Int.reduceBEq, Int.reduceBNe, hf.lenS, idx_lt (show i < l.length by omega), own_at (show i < l.length by omega), lb, f28_J2, up]
      exact g1
    | true =>
      have ef : (List.range (i + 1)).filter (fun k => decide (v[k]? = some true)) = (List.range i).filter (fun k => decide (v[k]? = some true)) ++ [i] := by
        rw [List.range_succ, List.filter_append]
        simp [hbv]
      have hlen : ((List.range i).filter (fun k => decide (v[k]? = some true))).length ≤ i := by
        have := List.length_filter_le (fun k => decide (v[k]? = some true)) (List.range i)
        simpa using this
      have hp : Keep (all H) H (H.push ⟨[.int .i64 (i : Int)], 1, true⟩) := push_keep
      have b1 : bldS 1 1 [.int .i64 0] [(0, 1, .int .i64 (i : Int))] H = some (.slice (some ⟨H.n, 0, none⟩) 1 1, H.push ⟨[.int .i64 (i : Int)], 1, true⟩) := bld1 rfl rfl
      have P2 : (H.push ⟨[.int .i64 (i : Int)], 1, true⟩).n = H.n + 1 := push_n
      obtain ⟨vo2, H2, c1, c2, c3, c4, c5, c6⟩ := (ha.keep hp).appQ (by_ := 8) (Nat.le_trans h.keep.1 hp.1) (addend_push (sz := 1) (n := 1) (cs := [.int .i64 (i : Int)]) rfl) rfl (by omega)
      have hG := h.hi
      have rg2 : RG H0 H2 G v := ⟨(h.keep.trans (hp.mono fun b hb => Nat.lt_of_lt_of_le hb h.keep.1)).trans c3, by rw [c4.2 G ⟨by omega, hv⟩, push_lt hG]; exact h.get, h.lo, by have := c4.1; omega⟩
      have : NI ((List.range i).filter (fun k => decide (v[k]? = some true))) ++ [.int .i64 (i : Int)] = NI ((List.range i).filter (fun k => decide (v[k]? = some true)) ++ [i]) := by simp [NI]
      rw [this] at c2
      obtain ⟨H', vo', g1, g2, g3⟩ := ih (i + 1) H2 vo2 (by omega) rg2 (by rw [ef, List.length_append]; exact c2) (fun e => by
        rcases c5 G e with h | h
        · exact hv h
        · omega)
      refine ⟨H', vo', ?_, g2, g3⟩
      refine Ev.step (fun n m => f28_L3.eq_2 _ _ _ _ _ _ _ _ _) ?_
      simp only [ruA, ruB, ruC, ruE, ruD, lenStr, Int.reduceBEq, Int.reduceBNe, hf.lenS, idx_lt (show i < l.length by omega), own_at (show i < l.length by omega), lb, b1, c1, f28_J2, up]
      exact g1
theorem rr_L0 : ∀ (r i : Nat) (v : List Bool) (H : Heap), i + r = l.length → RG H0 H G v → v.length = l.length →
    ∃ H' vo', Ev (fun n m => f28_L0 real (AC n) n m vf (GS G l.length) (.int .i64 (i : Int)) H) (.tuple #[vo', .int .i64 0], H') ∧ Keep (all H0) H0 H' ∧ Sl (all H') H' 1 vo' (picks (rndF l r v)).length (NI (picks (rndF l r v))) := by
  have hn := hk.n
  intro r
  induction r with
  | zero =>
    intro i v H hr h hl
    obtain ⟨H', vo', g1, g2, g3⟩ := rr_L3 hf hk hl l.length 0 H nilS (by omega) h (by simpa using Acc.nil) (by simp [blkOf])
    refine ⟨H', vo', ?_, g2, g3⟩
    refine Ev.step (fun n m => f28_L0.eq_2 _ _ _ _ _ _ _ _) ?_
    simp only [ruA, ruB, ruC, ruE, ruD, lenStr, Int.reduceBEq, Int.reduceBNe, hf.lenS, idx_ge (show l.length ≤ i by omega)]
    exact g1.loop
  | succ r ih =>
    intro i v H hr h hl
    obtain ⟨H1, N1, a1, a2⟩ := rr_L1 (i := i) hf hk (by omega) l.length 0 v H (by omega) h hl
    have er : (List.range' 0 l.length).foldl (fun v k => rndK l k v) v = rndN l v := by unfold rndN; rw [List.range_eq_range']
    rw [er] at a1
    have hl1 : (rndN l v).length = l.length := (rndN_word (l := l) (List.range l.length) v hl).1
    obtain ⟨H', vo', ⟨N, g1⟩, g2, g3⟩ := ih (i + 1) (rndN l v) H1 (by omega) a1 hl1
    refine ⟨H', vo', ⟨max N N1 + 1, fun n m x1 x2 => ?_⟩, g2, g3⟩
    obtain ⟨m, rfl⟩ : ∃ q, m = q + 1 := ⟨m - 1, by omega⟩
    show f28_L0 real (AC n) n (m + 1) vf (GS G l.length) (.int .i64 (i : Int)) H = _
    rw [f28_L0.eq_2]
    have a2 := a2 n n (by omega) (by omega) (f28_L0 real (AC n) n m)
    have e0 : ((0 : Nat) : Int) = 0 := rfl
    rw [e0] at a2
    simp only [ruA, ruB, ruC, ruE, ruD, lenStr, Int.reduceBEq, Int.reduceBNe, hf.lenS, idx_lt (show i < l.length by omega)]
    exact a2.trans (g1 n m (by omega) (by omega))
end
/-- What a root reaches: the reference. -/
theorem rreach_ok {H0 : Heap} {vf : Value} {l : List En} (hf : Sli (all H0) H0 l vf) (hk : Eok l) (root : List UInt8) :
    ∃ H' v, Cl 28 [.string (bs root), vf] H0 (.tuple #[v, .int .i64 (mayN l)]) H' ∧ Keep (all H0) H0 H' ∧ ((mayN l ≠ 0 → Sl (all H') H' 1 v 0 (I [])) ∧ (mayN l = 0 → Sl (all H') H' 1 v (reachN root l).length (NI (reachN root l)))) := by
  have c0 := may_ok hf hk.n
  by_cases hm : mayN l = 0
  case neg =>
    refine ⟨H0, nilS, ?_, Keep.refl _ _, fun _ => Sl.nil, fun h => absurd h hm⟩
    refine Ev.enter (fun n => f28_eq rfl n _ _ _) ?_
    have e : (mayN l != 0) = true := by simpa using hm
    simp only [f28, ruA, ruB, ruC, ruE, ruD, lenStr, Int.reduceBEq, Int.reduceBNe]
    refine Ev.callC c0 ?_
    simp only [ruA, ruB, ruC, ruE, ruD, lenStr, Int.reduceBEq, Int.reduceBNe, e]
    exact Ev.pure _
  case pos =>
    have e0 : ((0 : Int) != 0) = false := rfl
    rw [hm] at c0 ⊢
    have t1 := mkB_ok (N := l.length) hk.n (H := H0)
    have k1 : Keep (all H0) H0 (H0.push ⟨BL (List.replicate l.length false), 1, true⟩) := push_keep
    have g1 : (H0.push ⟨BL (List.replicate l.length false), 1, true⟩).get H0.n = some ⟨BL (List.replicate l.length false), 1, true⟩ := push_self
    have n1 : (H0.push ⟨BL (List.replicate l.length false), 1, true⟩).n = H0.n + 1 := push_n
    generalize H0.push ⟨BL (List.replicate l.length false), 1, true⟩ = H1 at *
    have rg : RG H0 H1 H0.n (List.replicate l.length false) := ⟨k1, g1, Nat.le_refl _, by omega⟩
    have fi := find_ok (p := root) (hf.keep k1) hk.n
    cases hr : findN l root with
    | none =>
      rw [hr] at fi
      have es : start l root = List.replicate l.length false := by unfold start; rw [hr]
      obtain ⟨H', vo, r1, r2, r3⟩ := rr_L0 hf hk l.length 0 _ H1 (by omega) rg (by simp)
      have r1 := r1.loop
      refine ⟨H', vo, ?_, r2, fun h => absurd rfl h, fun _ => by unfold reachN; rw [es]; exact r3⟩
      refine Ev.enter (fun n => f28_eq rfl n _ _ _) ?_
      have e1 : decide ((-1 : Int) ≥ 0) = false := rfl
      simp only [f28, ruA, ruB, ruC, ruE, ruD, lenStr, Int.reduceBEq, Int.reduceBNe]
      refine Ev.callC c0 ?_
      simp only [ruA, ruB, ruC, ruE, ruD, lenStr, Int.reduceBEq, Int.reduceBNe, e0, hf.lenS, t1]
      refine Ev.callC fi ?_
      simp only [ruA, ruB, ruC, ruE, ruD, lenStr, Int.reduceBEq, Int.reduceBNe, fI, e1]
      exact r1
    | some i =>
      rw [hr] at fi
      have hi := find_lt hr
      have es : start l root = (List.replicate l.length false).set i true := by unfold start; rw [hr]
      obtain ⟨H2, s1, s2⟩ := rg.set (k := i) (by simpa using hi)
      obtain ⟨H', vo, r1, r2, r3⟩ := rr_L0 hf hk l.length 0 _ H2 (by omega) s2 (by simp)
      have r1 := r1.loop
      refine ⟨H', vo, ?_, r2, fun h => absurd rfl h, fun _ => by unfold reachN; rw [es]; exact r3⟩
      refine Ev.enter (fun n => f28_eq rfl n _ _ _) ?_
      have e1 : decide ((i : Int) ≥ 0) = true := decide_eq_true (by omega)
      simp only [f28, ruA, ruB, ruC, ruE, ruD, lenStr, Int.reduceBEq, Int.reduceBNe]
      refine Ev.callC c0 ?_
      simp only [ruA, ruB, ruC, ruE, ruD, lenStr, Int.reduceBEq, Int.reduceBNe, e0, hf.lenS, t1]
      refine Ev.callC fi ?_
      simp only [ruA, ruB, ruC, ruE, ruD, lenStr, Int.reduceBEq, Int.reduceBNe, fI, e1, own_at hi, s1]
      exact r1
end Go.Eng
