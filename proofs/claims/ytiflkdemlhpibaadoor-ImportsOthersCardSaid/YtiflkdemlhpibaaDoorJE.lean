/- through and Order, of the program. -/
import Derived.Test.YtiflkdemlhpibaaDoorJD
set_option linter.unusedVariables false
set_option linter.unusedSimpArgs false
set_option linter.unusedSectionVars false
set_option maxRecDepth 100000
namespace Go.Eng
open Go Go.Proofs

/-- An element's address and what stands there, whatever has been made since. -/
theorem en_at0 {H0 : Heap} {l : List En} {v : Value} (h : Sli (all H0) H0 l v) {i : Nat} {e : En} (he : l[i]? = some e) :
    ∃ b o w, iAddrS 2 v (.int .i64 (i : Int)) = some (ptr b o) ∧ Sl (all H0) H0 1 w e.I.length (STRL e.I) ∧ ∀ H', Keep (all H0) H0 H' → ldC (ptr b o) H' = some (.string (bs e.P), H') ∧ ldC (ptr b (o + 1)) H' = some (w, H') := by
  obtain ⟨b, o, w, a1, a2, a3, a4, a5, _⟩ := en_at h he
  exact ⟨b, o, w, a1, a5, fun H' hk => ⟨ld_keep a3 a2 hk, ld_keep a4 a2 hk⟩⟩
/-! ### counts -/
def Cnt (s s' : Dfs) : Prop := s'.many ≤ 32 ∧ s'.ord.length + s.many ≤ s'.many + s.ord.length ∧ s'.st.length = s.st.length ∧ s.many ≤ s'.many
theorem goL_cnt {l : List En} {n : Nat} (ih : ∀ (i : Nat) (s : Dfs), s.many ≤ 32 → Cnt s (dfs l n i s).1) : ∀ (ps : List (List UInt8)) (s : Dfs), s.many ≤ 32 → Cnt s (goL l (dfs l n) ps s).1
  | [], s, h => ⟨h, by simp only [goL]; omega, rfl, Nat.le_refl _⟩
  | p :: ps, s, h => by
    have c0 : Cnt s s := ⟨h, by omega, rfl, Nat.le_refl _⟩
    simp only [goL]
    cases findN l p with
    | none => exact c0
    | some k =>
      simp only
      split
      · exact c0
      · split
        · exact goL_cnt ih ps s h
        · have a := ih k s h
          cases hr : (dfs l n k s).2 with
          | some e => exact a
          | none =>
            have b := goL_cnt ih ps (dfs l n k s).1 a.1
            simp only
            obtain ⟨a1, a2, a3, a4⟩ := a
            obtain ⟨b1, b2, b3, b4⟩ := b
            exact ⟨b1, by omega, by rw [b3, a3], by omega⟩
theorem dfs_cnt (l : List En) : ∀ (n i : Nat) (s : Dfs), s.many ≤ 32 → Cnt s (dfs l n i s).1
  | 0, i, s, h => ⟨h, by simp only [dfs]; omega, rfl, Nat.le_refl _⟩
  | n + 1, i, s, h => by
    simp only [dfs]
    split
    · exact ⟨h, by simp only; omega, rfl, Nat.le_refl _⟩
    · have a := goL_cnt (dfs_cnt l n) (impN l i) ⟨s.st.set i 1, s.many + 1, s.ord⟩ (by simp only; omega)
      obtain ⟨a1, a2, a3, a4⟩ := a
      simp only at a2 a3 a4
      cases hr : (goL l (dfs l n) (impN l i) ⟨s.st.set i 1, s.many + 1, s.ord⟩).2 with
      | some e => exact ⟨a1, by simp only; omega, by simp only; rw [a3]; simp, by simp only; omega⟩
      | none => exact ⟨a1, by simp only [List.length_append, List.length_singleton]; omega, by simp only [List.length_set]; rw [a3]; simp, by simp only; omega⟩

theorem goL_err {l : List En} {n : Nat} (ih : ∀ (i : Nat) (s : Dfs) (e : List UInt8 × Int), (dfs l n i s).2 = some e → e.2 ≠ 0) : ∀ (ps : List (List UInt8)) (s : Dfs) (e : List UInt8 × Int), (goL l (dfs l n) ps s).2 = some e → e.2 ≠ 0
  | [], s, e, h => by simp only [goL] at h; cases h
  | p :: ps, s, e, h => by
    simp only [goL] at h
    cases hf : findN l p with
    | none => rw [hf] at h; injection h with h; subst h; simp
    | some k =>
      rw [hf] at h
      simp only at h
      split at h
      · injection h with h; subst h; simp
      · split at h
        · exact goL_err ih ps s e h
        · cases hr : (dfs l n k s).2 with
          | some r => rw [hr] at h; injection h with h; subst h; exact ih k s r hr
          | none => rw [hr] at h; exact goL_err ih ps _ e h
theorem dfs_err (l : List En) : ∀ (n i : Nat) (s : Dfs) (e : List UInt8 × Int), (dfs l n i s).2 = some e → e.2 ≠ 0
  | 0, i, s, e, h => by simp only [dfs] at h; cases h
  | n + 1, i, s, e, h => by
    simp only [dfs] at h
    split at h
    · injection h with h; subst h; simp
    · cases hr : (goL l (dfs l n) (impN l i) ⟨s.st.set i 1, s.many + 1, s.ord⟩).2 with
      | some r => rw [hr] at h; injection h with h; subst h; exact goL_err (dfs_err l n) _ _ r hr
      | none => rw [hr] at h; cases h

/-! ### through -/
def errI : Option (List UInt8 × Int) → Int
  | none => 0
  | some e => e.2
def errP (nm : List UInt8) : Option (List UInt8 × Int) → List UInt8
  | none => nm
  | some e => e.1
section
variable {H0 : Heap} {B M S : Nat} {vf : Value} {l : List En}
/-- What is wrong is kept. -/
theorem stop_ok {H : Heap} {vo : Value} {s : Dfs} {nm : List UInt8} (h : Wk H0 H B M S vf vo l s nm) (p : List UInt8) (e : Int) : ∃ H', Cl 29 [ptr B 0, .string (bs p), .int .i64 e] H (.int .i64 e) H' ∧ Wk H0 H' B M S vf vo l s p := by
  obtain ⟨H', h1, h2⟩ := h.name p
  refine ⟨H', ?_, h2⟩
  refine Ev.enter (fun n => f29_eq rfl n _ _ _ _) ?_
  simp only [f29, ruA, ruB, ruC, ruE, ruD, lenStr, Int.reduceBEq, Int.reduceBNe, h1]
  exact Ev.pure _
/-- A call of through. -/
def ThP (H0 : Heap) (B M S : Nat) (vf : Value) (l : List En) (n : Nat) : Prop := ∀ (i : Nat) (s : Dfs) (H : Heap) (vo : Value) (nm : List UInt8), Wk H0 H B M S vf vo l s nm → i < l.length → 33 ≤ n + s.many → s.many ≤ 32 → s.ord.length ≤ s.many →
  ∃ H' vo', Cl 22 [ptr B 0, .int .i64 (i : Int)] H (.int .i64 (errI (dfs l n i s).2)) H' ∧ Wk H0 H' B M S vf vo' l (dfs l n i s).1 (errP nm (dfs l n i s).2)
theorem lkV_none {H : Heap} : extr 0 (lkV none) H = some (.int .i64 0, H) ∧ extr 1 (lkV none) H = some (.bool false, H) := ⟨rfl, rfl⟩
theorem lkV_some {k : Nat} {H : Heap} : extr 0 (lkV (some k)) H = some (.int .i64 (k : Int), H) ∧ extr 1 (lkV (some k)) H = some (.bool true, H) := ⟨rfl, rfl⟩
theorem two_beq {v : Nat} {k : Int} {n : Nat} (h : (n : Int) = k) : ((v : Int) == k) = decide (v = n) := by subst h; exact k_eq'
variable {e : En} {i : Nat} (hn : ∀ e ∈ l, e.I.length ≤ 1000000000000)
include hn
/-- What is left to be done when all imports are through. -/
theorem thru_end (he : l[i]? = some e) {s : Dfs} {H : Heap} {vo vi : Value} {nm : List UInt8} (h : Wk H0 H B M S vf vo l s nm) (hb : s.ord.length ≤ 1000000) {j : Nat} (hj : e.I.length ≤ j) :
    ∃ H' vo', Ev (fun n m => f22_L0 real (AC n) n m (ptr B 0) (.int .i64 (i : Int)) vi (.int .i64 (e.I.length : Int)) (.int .i64 (j : Int)) H) (.int .i64 0, H') ∧ Wk H0 H' B M S vf vo' l ⟨s.st.set i 2, s.many, s.ord ++ [i]⟩ nm := by
  have hi := (List.getElem?_eq_some_iff.1 he).1
  obtain ⟨vo', H1, H2, H3, g1, g2, g3, g4, g5⟩ := h.thru hi hb
  refine ⟨H3, vo', ?_, g5⟩
  have g2' : sameBlk (H.push ⟨[.int .i64 (i : Int)], 1, true⟩) H1 (blkOf (ptr B 2)) = true := g2
  refine Ev.step (fun n m => f22_L0.eq_2 _ _ _ _ _ _ _ _ _ _) ?_
  have b1 : bldS 1 1 [.int .i64 0] [(0, 1, .int .i64 (i : Int))] H = some (.slice (some ⟨H.n, 0, none⟩) 1 1, H.push ⟨[.int .i64 (i : Int)], 1, true⟩) := bld1 rfl rfl
  simp only [ruA, ruB, ruC, ruE, ruD, lenStr, Int.reduceBEq, Int.reduceBNe, idx_ge hj, h.l2, h.l4, b1, g1, g2', Bool.true_and, Bool.and_true, own_at hi, g3, g4]
  exact Ev.pure _
theorem thru_loop {n0 : Nat} (ih : ThP H0 B M S vf l n0) (he : l[i]? = some e) : ∀ (k j : Nat) (s : Dfs) (H : Heap) (vo : Value) (nm : List UInt8), j + k = e.I.length → Wk H0 H B M S vf vo l s nm → 33 ≤ n0 + s.many → s.many ≤ 32 → s.ord.length + 1 ≤ s.many → ∀ {vi : Value}, Sl (all H0) H0 1 vi e.I.length (STRL e.I) →
    ∃ H' vo', Ev (fun n m => f22_L0 real (AC n) n m (ptr B 0) (.int .i64 (i : Int)) vi (.int .i64 (e.I.length : Int)) (.int .i64 (j : Int)) H) (.int .i64 (errI (goL l (dfs l n0) (e.I.drop j) s).2), H') ∧
      match (goL l (dfs l n0) (e.I.drop j) s).2 with
      | some r => Wk H0 H' B M S vf vo' l (goL l (dfs l n0) (e.I.drop j) s).1 r.1
      | none => Wk H0 H' B M S vf vo' l ⟨(goL l (dfs l n0) (e.I.drop j) s).1.st.set i 2, (goL l (dfs l n0) (e.I.drop j) s).1.many, (goL l (dfs l n0) (e.I.drop j) s).1.ord ++ [i]⟩ nm := by
  have hI := hn e (List.mem_of_getElem? he)
  intro k
  induction k with
  | zero =>
    intro j s H vo nm hj h h33 h32 ho vi hv
    have e1 : e.I.drop j = [] := List.drop_eq_nil_of_le (by omega)
    obtain ⟨H', vo', g1, g2⟩ := thru_end hn he h (by omega) (vi := vi) (j := j) (by omega)
    refine ⟨H', vo', ?_, ?_⟩
    · rw [e1]; exact g1
    · rw [e1]; exact g2
  | succ k ihk =>
    intro j s H vo nm hj h h33 h32 ho vi hv
    obtain ⟨p, h1, h2⟩ := drop_at (l := e.I) (i := j) (by omega)
    have hvH := hv.keep h.keep
    obtain ⟨a, a1, a2⟩ := hvH.at1 (STRL_at h1)
    rw [h2]
    cases hf : findN l p with
    | none =>
      obtain ⟨H', g1, g2⟩ := stop_ok h p 160
      have r : goL l (dfs l n0) (p :: e.I.drop (j + 1)) s = (s, some (p, 160)) := by simp only [goL, hf]
      rw [r]
      refine ⟨H', vo, ?_, g2⟩
      refine Ev.step (fun n m => f22_L0.eq_2 _ _ _ _ _ _ _ _ _ _) ?_
      have lk := h.lk p
      rw [hf] at lk
      simp only [ruA, ruB, ruC, ruE, ruD, lenStr, Int.reduceBEq, Int.reduceBNe, idx_lt (show j < e.I.length by omega), a1, a2, h.l1, keyB_str, if_true, lk, lkV_none]
      refine Ev.callC g1 ?_
      exact Ev.pure _
    | some q =>
      have hq := find_lt hf
      have lk := h.lk p
      rw [hf] at lk
      obtain ⟨v, hv'⟩ : ∃ v, s.st[q]? = some v := ⟨_, List.getElem?_eq_getElem (by rw [h.sl]; exact hq)⟩
      have ls := h.stl hv'
      by_cases v1 : v = 1
      · subst v1
        obtain ⟨H', g1, g2⟩ := stop_ok h p 161
        have r : goL l (dfs l n0) (p :: e.I.drop (j + 1)) s = (s, some (p, 161)) := by simp only [goL, hf, hv', if_true]
        rw [r]
        refine ⟨H', vo, ?_, g2⟩
        refine Ev.step (fun n m => f22_L0.eq_2 _ _ _ _ _ _ _ _ _ _) ?_
        have e11 : (((1 : Nat) : Int) == 1) = true := rfl
        simp only [ruA, ruB, ruC, ruE, ruD, lenStr, Int.reduceBEq, Int.reduceBNe, idx_lt (show j < e.I.length by omega), a1, a2, h.l1, keyB_str, if_true, lk, lkV_some, h.l2, own_at hq, ls, e11]
        refine Ev.callC g1 ?_
        exact Ev.pure _
      · have n1 : ((v : Int) == 1) = false := by simp; omega
        have n1' : ¬ s.st[q]? = some 1 := by rw [hv']; intro h; injection h with h; exact v1 h
        by_cases v2 : v = 2
        · subst v2
          obtain ⟨H', vo', g1, g2⟩ := ihk (j + 1) s H vo nm (by omega) h h33 h32 ho hv
          have r : goL l (dfs l n0) (p :: e.I.drop (j + 1)) s = goL l (dfs l n0) (e.I.drop (j + 1)) s := by simp only [goL, hf]; rw [if_neg n1', if_pos hv']
          rw [r]
          refine ⟨H', vo', ?_, g2⟩
          refine Ev.step (fun n m => f22_L0.eq_2 _ _ _ _ _ _ _ _ _ _) ?_
          have e22 : (((2 : Nat) : Int) == 2) = true := rfl
          simp only [ruA, ruB, ruC, ruE, ruD, lenStr, Int.reduceBEq, Int.reduceBNe, idx_lt (show j < e.I.length by omega), a1, a2, h.l1, keyB_str, if_true, lk, lkV_some, h.l2, own_at hq, ls, n1, e22, f22_J1, idx_up (show j < 9223372036854775807 by omega)]
          exact g1
        · have n2 : ((v : Int) == 2) = false := by simp; omega
          have n2' : ¬ s.st[q]? = some 2 := by rw [hv']; intro h; injection h with h; exact v2 h
          obtain ⟨H1, vo1, c1, c2⟩ := ih q s H vo nm h hq h33 h32 (by omega)
          have cn := dfs_cnt l n0 q s h32
          cases hr : (dfs l n0 q s).2 with
          | some r =>
            have er : goL l (dfs l n0) (p :: e.I.drop (j + 1)) s = ((dfs l n0 q s).1, some r) := by simp only [goL, hf, if_neg n1', if_neg n2', hr]
            rw [er]
            rw [hr] at c1 c2
            have hz := dfs_err l n0 q s r hr
            refine ⟨H1, vo1, ?_, c2⟩
            refine Ev.step (fun n m => f22_L0.eq_2 _ _ _ _ _ _ _ _ _ _) ?_
            simp only [ruA, ruB, ruC, ruE, ruD, lenStr, Int.reduceBEq, Int.reduceBNe, idx_lt (show j < e.I.length by omega), a1, a2, h.l1, keyB_str, if_true, lk, lkV_some, h.l2, own_at hq, ls, n1, n2]
            refine Ev.callC c1 ?_
            have e0 : (r.2 != 0) = true := by simpa using hz
            simp only [ruA, ruB, ruC, ruE, ruD, lenStr, Int.reduceBEq, Int.reduceBNe, errI, e0]
            exact Ev.pure _
          | none =>
            have er : goL l (dfs l n0) (p :: e.I.drop (j + 1)) s = goL l (dfs l n0) (e.I.drop (j + 1)) (dfs l n0 q s).1 := by simp only [goL, hf, if_neg n1', if_neg n2', hr]
            rw [er]
            rw [hr] at c1 c2
            obtain ⟨cn1, cn2, cn3, cn4⟩ := cn
            obtain ⟨H', vo', g1, g2⟩ := ihk (j + 1) (dfs l n0 q s).1 H1 vo1 nm (by omega) c2 (by omega) cn1 (by omega) hv
            refine ⟨H', vo', ?_, g2⟩
            refine Ev.step (fun n m => f22_L0.eq_2 _ _ _ _ _ _ _ _ _ _) ?_
            simp only [ruA, ruB, ruC, ruE, ruD, lenStr, Int.reduceBEq, Int.reduceBNe, idx_lt (show j < e.I.length by omega), a1, a2, h.l1, keyB_str, if_true, lk, lkV_some, h.l2, own_at hq, ls, n1, n2]
            refine Ev.callC c1 ?_
            have e0 : ((0 : Int) != 0) = false := rfl
            simp only [ruA, ruB, ruC, ruE, ruD, lenStr, Int.reduceBEq, Int.reduceBNe, errI, e0, f22_J1, idx_up (show j < 9223372036854775807 by omega)]
            exact g1
/-- A file is gone through, and what it imports. -/
theorem through_ok : ∀ n, ThP H0 B M S vf l n
  | 0 => fun i s H vo nm h hi h33 h32 ho => by omega
  | n0 + 1 => fun i s H vo nm h hi h33 h32 ho => by
    obtain ⟨e, he⟩ : ∃ e, l[i]? = some e := ⟨_, List.getElem?_eq_getElem hi⟩
    obtain ⟨b, o, w, a1, a4, a3⟩ := en_at0 h.f he
    have hp : pathN l i = e.P := by simp only [pathN, he]
    have him : impN l i = e.I := by simp only [impN, he]
    by_cases hm : 32 ≤ s.many
    · have h32' : s.many = 32 := by omega
      have r : dfs l (n0 + 1) i s = (s, some (e.P, 5)) := by simp only [dfs, if_pos hm, hp]
      rw [r]
      obtain ⟨H', g1, g2⟩ := stop_ok h e.P 5
      refine ⟨H', vo, ?_, g2⟩
      refine Ev.enter (fun n => f22_eq rfl n _ _ _) ?_
      have l3 := h.l3
      rw [h32'] at l3
      have e32 : (((32 : Nat) : Int) == 32) = true := rfl
      simp only [f22, ruA, ruB, ruC, ruE, ruD, lenStr, Int.reduceBEq, Int.reduceBNe, l3, e32, h.l0, a1, (a3 H h.keep).1, Nat.add_zero]
      refine Ev.callC g1 ?_
      exact Ev.pure _
    · obtain ⟨H1, c1, c2⟩ := h.count (n := s.many + 1)
      obtain ⟨H2, m1, m2⟩ := c2.mark (v := 1) hi
      have hm' : ((s.many : Int) == 32) = false := by simp; omega
      obtain ⟨H', vo', g1, g2⟩ := thru_loop hn (through_ok n0) he e.I.length 0 _ H2 vo nm (by omega) m2 (by simp only; omega) (by simp only; omega) (by simp only; omega) a4
      have g1 := g1.loop
      have r : dfs l (n0 + 1) i s = match (goL l (dfs l n0) e.I ⟨s.st.set i 1, s.many + 1, s.ord⟩).2 with
        | some r => ((goL l (dfs l n0) e.I ⟨s.st.set i 1, s.many + 1, s.ord⟩).1, some r)
        | none => (⟨(goL l (dfs l n0) e.I ⟨s.st.set i 1, s.many + 1, s.ord⟩).1.st.set i 2, (goL l (dfs l n0) e.I ⟨s.st.set i 1, s.many + 1, s.ord⟩).1.many, (goL l (dfs l n0) e.I ⟨s.st.set i 1, s.many + 1, s.ord⟩).1.ord ++ [i]⟩, none) := by simp only [dfs, if_neg hm, him]; rfl
      have main : Cl 22 [ptr B 0, .int .i64 (i : Int)] H (.int .i64 (errI (goL l (dfs l n0) e.I ⟨s.st.set i 1, s.many + 1, s.ord⟩).2)) H' := by
        refine Ev.enter (fun n => f22_eq rfl n _ _ _) ?_
        have m1 : stV 1 (ptr S i) (.int .i64 1) H1 = some (undef, H2) := m1
        have c1 : stV 1 (ptr B 3) (.int .i64 ((s.many + 1 : Nat) : Int)) H = some (undef, H1) := c1
        simp only [f22, ruA, ruB, ruC, ruE, ruD, lenStr, Int.reduceBEq, Int.reduceBNe, h.l3, hm', idx_up (show s.many < 9223372036854775807 by omega), c1, c2.l2, own_at hi, m1, m2.l0, a1, (a3 H2 m2.keep).2, a4.lenS]
        rw [List.drop_zero] at g1
        exact g1
      rw [List.drop_zero] at g2
      rw [r]
      cases hr : (goL l (dfs l n0) e.I ⟨s.st.set i 1, s.many + 1, s.ord⟩).2 with
      | some r => rw [hr] at main g2; exact ⟨H', vo', main, g2⟩
      | none => rw [hr] at main g2; exact ⟨H', vo', main, g2⟩
omit hn in
theorem wk_sl {H : Heap} {vo : Value} {s : Dfs} {nm : List UInt8} (h : Wk H0 H B M S vf vo l s nm) : Sl (all H) H 1 vo s.ord.length (NI s.ord) := h.ord.sl
end
/-- What of each file comes ahead of it. -/
theorem order_ok {H0 : Heap} {vf : Value} {l : List En} (hf : Sli (all H0) H0 l vf) (hk : Eok l) (root : List UInt8) :
    ∃ H' v, Cl 10 [.string (bs root), vf] H0 (.tuple #[v, .string (bs (orderN root l).2.1), .int .i64 (orderN root l).2.2]) H' ∧ Keep (all H0) H0 H' ∧ Sl (all H') H' 1 v (orderN root l).1.length (NI (orderN root l).1) := by
  obtain ⟨H1, k1, b1, b2⟩ := begin_ok hf hk.n
  by_cases hm : mayN l = 0
  case neg =>
    have r : orderN root l = ([], [], mayN l) := by simp only [orderN, if_pos hm]
    rw [r]
    refine ⟨H1, nilS, ?_, k1, Sl.nil⟩
    refine Ev.enter (fun n => f10_eq rfl n _ _ _) ?_
    have e : (mayN l != 0) = true := by simpa using hm
    simp only [f10, ruA, ruB, ruC, ruE, ruD, lenStr, Int.reduceBEq, Int.reduceBNe]
    refine Ev.callC (b1 hm) ?_
    simp only [ruA, ruB, ruC, ruE, ruD, lenStr, Int.reduceBEq, Int.reduceBNe, e]
    exact Ev.pure _
  case pos =>
    obtain ⟨B, M, S, c1, c2⟩ := b2 hm
    have lk := c2.lk root
    have e0 : ((0 : Int) != 0) = false := rfl
    cases hr : findN l root with
    | none =>
      rw [hr] at lk
      have r : orderN root l = ([], root, 160) := by simp only [orderN, hr]; rw [if_neg (by simp [hm])]
      rw [r]
      refine ⟨H1, nilS, ?_, k1, Sl.nil⟩
      refine Ev.enter (fun n => f10_eq rfl n _ _ _) ?_
      simp only [f10, ruA, ruB, ruC, ruE, ruD, lenStr, Int.reduceBEq, Int.reduceBNe]
      refine Ev.callC c1 ?_
      simp only [ruA, ruB, ruC, ruE, ruD, lenStr, Int.reduceBEq, Int.reduceBNe, e0, c2.l1, keyB_str, if_true, lk, lkV_none]
      exact Ev.pure _
    | some i =>
      rw [hr] at lk
      have hi := find_lt hr
      obtain ⟨H2, vo, d1, d2⟩ := through_ok hk.i 33 i (dfs0 l) H1 nilS [] c2 hi (by simp [dfs0]) (by simp [dfs0]) (by simp [dfs0])
      cases he : (dfs l 33 i (dfs0 l)).2 with
      | some x =>
        rw [he] at d1 d2
        have hz := dfs_err l 33 i _ x he
        have e1 : (x.2 != 0) = true := by simpa using hz
        have r : orderN root l = ([], x.1, x.2) := by simp only [orderN, hr, he]; rw [if_neg (by simp [hm])]
        rw [r]
        refine ⟨H2, nilS, ?_, d2.keep, Sl.nil⟩
        refine Ev.enter (fun n => f10_eq rfl n _ _ _) ?_
        simp only [f10, ruA, ruB, ruC, ruE, ruD, lenStr, Int.reduceBEq, Int.reduceBNe]
        refine Ev.callC c1 ?_
        simp only [ruA, ruB, ruC, ruE, ruD, lenStr, Int.reduceBEq, Int.reduceBNe, e0, c2.l1, keyB_str, if_true, lk, lkV_some]
        refine Ev.callC d1 ?_
        simp only [ruA, ruB, ruC, ruE, ruD, lenStr, Int.reduceBEq, Int.reduceBNe, errI, e1, d2.l5, errP]
        exact Ev.pure _
      | none =>
        rw [he] at d1 d2
        have r : orderN root l = ((dfs l 33 i (dfs0 l)).1.ord, [], 0) := by simp only [orderN, hr, he]; rw [if_neg (by simp [hm])]
        rw [r]
        refine ⟨H2, vo, ?_, d2.keep, d2.ord.sl⟩
        refine Ev.enter (fun n => f10_eq rfl n _ _ _) ?_
        simp only [f10, ruA, ruB, ruC, ruE, ruD, lenStr, Int.reduceBEq, Int.reduceBNe]
        refine Ev.callC c1 ?_
        simp only [ruA, ruB, ruC, ruE, ruD, lenStr, Int.reduceBEq, Int.reduceBNe, e0, c2.l1, keyB_str, if_true, lk, lkV_some]
        refine Ev.callC d1 ?_
        simp only [ruA, ruB, ruC, ruE, ruD, lenStr, Int.reduceBEq, Int.reduceBNe, errI, e0, d2.l4]
        exact Ev.pure _
end Go.Eng
