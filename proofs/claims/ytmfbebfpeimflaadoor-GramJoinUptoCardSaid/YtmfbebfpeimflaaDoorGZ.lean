import Derived.Test.YtmfbebfpeimflaaDoorGV
/- The reference's reader: a way, a rule, a list of precedences, a term. -/
set_option linter.unusedVariables false
set_option linter.unusedSimpArgs false
set_option linter.unusedSectionVars false
set_option maxRecDepth 100000
namespace Go.Eng
open Go Go.Proofs

/-! ### plainly -/
theorem is_stop {k : Nat} {g : List UInt8} {r : Rd} (h : isN k g r = true) : mustN k g r = (headN r, r.next) := by unfold mustN; rw [h]; rfl
theorem names_step {r : Rd} (h : isN 1 [] r = true) : namesN r = (headN r :: (namesN r.next).1, (namesN r.next).2) := by
  obtain ⟨t, l, rfl⟩ := is_ne h
  have hk : t.K = 1 := by simpa [isN] using h
  simp [namesN, namesL, hk, headN, Rd.next]
theorem names_stop {r : Rd} (h : isN 1 [] r = false) : namesN r = ([], r) := by
  obtain ⟨l, bad⟩ := r
  cases bad with
  | true => rfl
  | false =>
    cases l with
    | nil => rfl
    | cons t l =>
      have hk : ¬ t.K = 1 := by simpa [isN] using h
      simp [namesN, namesL, hk]
theorem alt_step {r : Rd} (h : isN 1 [] r = true) : altN r = (⟨headN r :: (altN r.next).1.S, (altN r.next).1.P⟩, (altN r.next).2) := by
  have e := names_step h
  unfold altN
  rw [e]
  simp only
  split <;> rfl
theorem alt_stop {r : Rd} (h : isN 1 [] r = false) : altN r = if isN 13 [] r then (⟨[], (mustN 1 [] r.next).1⟩, (mustN 1 [] r.next).2) else (⟨[], []⟩, r) := by
  have e := names_stop h
  unfold altN
  rw [e]

/-! ### two boxes -/
structure Bx (H0 H : Heap) (p q2 q3 : Nat) (u2 u3 : List Value) : Prop where
  h2 : H.get q2 = some ⟨u2, 1, true⟩
  h3 : H.get q3 = some ⟨u3, 1, true⟩
  n2 : H0.n ≤ q2
  l2 : q2 < H.n
  n3 : H0.n ≤ q3
  l3 : q3 < H.n
  q23 : q2 ≠ q3
  p2 : p ≠ q2
  p3 : p ≠ q3
section
variable {H0 H H' : Heap} {p q2 q3 : Nat} {u2 u3 : List Value}
theorem Bx.move (h : Bx H0 H p q2 q3 u2 u3) (hk : Keep (But H p) H H') : Bx H0 H' p q2 q3 u2 u3 :=
  { h with
    h2 := by rw [hk.2 _ ⟨h.l2, h.p2.symm⟩]; exact h.h2
    h3 := by rw [hk.2 _ ⟨h.l3, h.p3.symm⟩]; exact h.h3
    l2 := Nat.lt_of_lt_of_le h.l2 hk.1
    l3 := Nat.lt_of_lt_of_le h.l3 hk.1 }
theorem Bx.set3 (h : Bx H0 H p q2 q3 u2 u3) (u : List Value) : Bx H0 (H.upd q3 (some ⟨u, 1, true⟩)) p q2 q3 u2 u :=
  { h with
    h2 := by rw [upd_ne h.q23]; exact h.h2
    h3 := upd_self
    l2 := h.l2
    l3 := h.l3 }
theorem Bx.set2 (h : Bx H0 H p q2 q3 u2 u3) (u : List Value) : Bx H0 (H.upd q2 (some ⟨u, 1, true⟩)) p q2 q3 u u3 :=
  { h with
    h2 := upd_self
    h3 := by rw [upd_ne h.q23.symm]; exact h.h3
    l2 := h.l2
    l3 := h.l3 }
end
section
variable {R : Nat → Prop} {H0 : Heap} {p q2 q3 : Nat} {b : List UInt8} {ts : List Tok}
theorem keep_up {H H' : Heap} {p : Nat} (hK : Keep (But H0 p) H0 H) (k : Keep (But H p) H H') : Keep (But H0 p) H0 H' := hK.trans (k.mono fun z hz => ⟨Nat.lt_of_lt_of_le hz.1 hK.1, hz.2⟩)
theorem keep_upd {H : Heap} {p q : Nat} {y : Option Blk} (hK : Keep (But H0 p) H0 H) (hq : H0.n ≤ q) : Keep (But H0 p) H0 (H.upd q y) := hK.trans (Keep.upd fun h => by have := h.1; omega)
theorem RfB.box {H : Heap} {i : Nat} {bad : Bool} {q : Nat} {y : Option Blk} (h : RfB R H p b ts i bad) (hRb : Rb R H0) (hq : H0.n ≤ q) (hp : p ≠ q) : RfB R (H.upd q y) p b ts i bad :=
  h.move (Keep.upd fun hr => by have := hRb q hr; omega) (upd_ne hp)
theorem way_J1 {H : Heap} {w : Value} {s : List UInt8} (hB : Bx H0 H p q2 q3 [nilS, .string (bs [])] [w, .string (bs s)]) (o1 : Eng.oneC w = true) :
    Ev (fun n m => f63_J1 real (AC n) n (ptr q2 0) (ptr q3 0) H) (.agg #[w, .string (bs s)], H.upd q2 (some ⟨[w, .string (bs s)], 1, true⟩)) := by
  have l1 := ld2 hB.h3
  have l2 := st2 (x := w) (y := .string (bs s)) hB.h2 o1 rfl
  have l3 := ld2 (H := H.upd q2 (some ⟨[w, .string (bs s)], 1, true⟩)) (q := q2) (x := w) (y := .string (bs s)) upd_self
  simp only [f63_J1, ruA, ruB, ruC, ruE, ruD, lenStr, Int.reduceBEq, Int.reduceBNe, l1, l2, l3, Option.map_some, resM1, one1]
  exact Ev.pure _
/-- What a way leaves. -/
def WyP (H0 : Heap) (R : Nat → Prop) (p : Nat) (b : List UInt8) (ts : List Tok) (i : Nat) (r : Rd) (H' : Heap) : Prop :=
  Keep (But H0 p) H0 H' ∧ ∃ i', RfB R H' p b ts i' r.bad ∧ r.l = wordsOf b (ts.drop i') ∧ i ≤ i'
theorem way_stop {H : Heap} {i : Nat} {bad : Bool} {v : Value} {pre : List (List UInt8)} (hRb : Rb R H0) (hT : ∀ t ∈ ts, TG b t) (hb : b.length ≤ 8192) (hl : ts.length ≤ 8192) (hK : Keep (But H0 p) H0 H) (hR : RfB R H p b ts i bad)
    (hB : Bx H0 H p q2 q3 [nilS, .string (bs [])] [v, .string (bs [])]) (hp0 : p < H0.n) (hA : Acc (all H0) H 1 v pre.length (STRL pre)) (hv : ∀ z, blkOf v = some z → z ≠ q2 ∧ z ≠ q3) (hi : isN 1 [] ⟨wordsOf b (ts.drop i), bad⟩ = false) :
    ∃ w H', Ev (fun n m => f63_L0 real (AC n) n m (ptr p 0) (ptr q2 0) (ptr q3 0) H) (.agg #[w, .string (bs (altN ⟨wordsOf b (ts.drop i), bad⟩).1.P)], H') ∧ WyP H0 R p b ts i (altN ⟨wordsOf b (ts.drop i), bad⟩).2 H' ∧
      Acc (all H0) H' 1 w (pre ++ (altN ⟨wordsOf b (ts.drop i), bad⟩).1.S).length (STRL (pre ++ (altN ⟨wordsOf b (ts.drop i), bad⟩).1.S)) := by
  rw [alt_stop hi]
  obtain ⟨H1, c1, k1⟩ := is_ok hR hT hb hl 1 []
  rw [hi] at c1
  have k1' : Keep (But H p) H H1 := k1.mono (all_but H p)
  have r1 := hR.move (k1.mono hR.1.2) (k1.2 p hR.2.1)
  have b1 := hB.move k1'
  have a1 := hA.keep k1
  have K1 := keep_up hK k1'
  obtain ⟨H2, c2, k2⟩ := is_ok r1 hT hb hl 13 []
  have k2' : Keep (But H1 p) H1 H2 := k2.mono (all_but H1 p)
  have r2 := r1.move (k2.mono r1.1.2) (k2.2 p r1.2.1)
  have b2 := b1.move k2'
  have a2 := a1.keep k2
  have K2 := keep_up K1 k2'
  have hvp : blkOf v ≠ some p := fun e => (a2.at e).1 hp0
  cases h13 : isN 13 [] ⟨wordsOf b (ts.drop i), bad⟩ with
  | false =>
    rw [h13] at c2
    simp only [Bool.false_eq_true, if_false]
    have o1 := a2.oneC.1
    refine ⟨v, H2.upd q2 (some ⟨[v, .string (bs [])], 1, true⟩), ?_, ⟨keep_upd K2 hB.n2, i, r2.box hRb hB.n2 hB.p2, rfl, Nat.le_refl _⟩, ?_⟩
    · refine Ev.step (fun n m => f63_L0.eq_2 _ _ _ _ _ _ _ _) ?_
      simp only [ruA, ruB, ruC, ruE, ruD, lenStr, Int.reduceBEq, Int.reduceBNe]
      refine Ev.callC c1 ?_
      simp only [ruA, ruB, ruC, ruE, ruD, lenStr, Int.reduceBEq, Int.reduceBNe]
      refine Ev.callC c2 ?_
      simp only [ruA, ruB, ruC, ruE, ruD, lenStr, Int.reduceBEq, Int.reduceBNe]
      exact way_J1 b2 o1
    · simpa using a2.box (fun e => (hv _ e).1 rfl) upd_butQ
  | true =>
    rw [h13] at c2
    simp only [if_true]
    obtain ⟨H3, i3, c3, k3, r3, l3, g3⟩ := take_ok r2 hT hb hl 13 []
    rw [is_stop h13] at c3 r3 l3
    simp only at r3 l3
    have b3 := b2.move k3
    have a3 := a2.box hvp k3
    have K3 := keep_up K2 k3
    obtain ⟨H4, i4, c4, k4, r4, l4, g4⟩ := take_ok r3 hT hb hl 1 []
    have e3 : (⟨wordsOf b (ts.drop i3), Rd.bad (Rd.next ⟨wordsOf b (ts.drop i), bad⟩)⟩ : Rd) = Rd.next ⟨wordsOf b (ts.drop i), bad⟩ := by rw [← l3]
    rw [e3] at c4 r4 l4
    have b4 := b3.move k4
    have a4 := a3.box hvp k4
    have K4 := keep_up K3 k4
    generalize mustN 1 [] (Rd.next ⟨wordsOf b (ts.drop i), bad⟩) = Y at *
    have st : stV 1 (ptr q3 1) (.string (bs Y.1)) H4 = some (undef, H4.upd q3 (some ⟨[v, .string (bs Y.1)], 1, true⟩)) := stV1_box b4.h3 (by simp) rfl rfl
    have b5 := b4.set3 [v, .string (bs Y.1)]
    have a5 : Acc (all H0) (H4.upd q3 (some ⟨[v, .string (bs Y.1)], 1, true⟩)) 1 v pre.length (STRL pre) := a4.box (fun e => (hv _ e).2 rfl) upd_butQ
    have o1 := a5.oneC.1
    refine ⟨v, (H4.upd q3 (some ⟨[v, .string (bs Y.1)], 1, true⟩)).upd q2 (some ⟨[v, .string (bs Y.1)], 1, true⟩), ?_, ⟨keep_upd (keep_upd K4 hB.n3) hB.n2, i4, (r4.box hRb hB.n3 hB.p3).box hRb hB.n2 hB.p2, l4, by omega⟩, ?_⟩
    · refine Ev.step (fun n m => f63_L0.eq_2 _ _ _ _ _ _ _ _) ?_
      simp only [ruA, ruB, ruC, ruE, ruD, lenStr, Int.reduceBEq, Int.reduceBNe]
      refine Ev.callC c1 ?_
      simp only [ruA, ruB, ruC, ruE, ruD, lenStr, Int.reduceBEq, Int.reduceBNe]
      refine Ev.callC c2 ?_
      simp only [ruA, ruB, ruC, ruE, ruD, lenStr, Int.reduceBEq, Int.reduceBNe]
      refine Ev.callC c3 ?_
      refine Ev.callC c4 ?_
      simp only [ruA, ruB, ruC, ruE, ruD, lenStr, Int.reduceBEq, Int.reduceBNe, st]
      exact way_J1 b5 o1
    · simpa using a5.box (fun e => (hv _ e).1 rfl) upd_butQ
/-- A name more. -/
theorem name_app {H : Heap} {v : Value} {pre : List (List UInt8)} {s : List UInt8} (hn : H0.n ≤ H.n) (hA : Acc (all H0) H 1 v pre.length (STRL pre)) (hb : pre.length ≤ 10000) :
    ∃ v' H', Eng.app 1 16 v (.slice (some ⟨H.n, 0, none⟩) 1 1) (H.push ⟨[.string (bs s)], 1, true⟩) = some (v', H') ∧ Acc (all H0) H' 1 v' (pre ++ [s]).length (STRL (pre ++ [s])) ∧ Keep (fun z => z < H.n ∧ blkOf v ≠ some z) H H' ∧ (∀ z, blkOf v' = some z → blkOf v = some z ∨ H.n ≤ z) := by
  have hm : mostBytes = 140737488355328 := rfl
  have hp : Keep (all H) H (H.push ⟨[.string (bs s)], 1, true⟩) := push_keep
  obtain ⟨v', H1, g1, g2, g3, g4, g5, g6⟩ := (hA.keep hp).appQ (by_ := 16) (Nat.le_trans hn hp.1) (addend_push (sz := 1) (n := 1) (cs := [.string (bs s)]) rfl) rfl (by omega)
  have e1 : pre.length + 1 = (pre ++ [s]).length := by simp
  have e2 : STRL pre ++ [.string (bs s)] = STRL (pre ++ [s]) := by simp [STRL]
  rw [e1, e2] at g2
  exact ⟨v', H1, g1, g2, (hp.mono fun z hz => hz.1).trans (g4.mono fun z hz => ⟨Nat.lt_of_lt_of_le hz.1 hp.1, hz.2⟩), fun z e => by
    rcases g5 z e with h | h
    · exact .inl h
    · right; exact Nat.le_trans hp.1 h⟩
theorem way_loop (hRb : Rb R H0) (hT : ∀ t ∈ ts, TG b t) (hb : b.length ≤ 8192) (hl : ts.length ≤ 8192) (hp0 : p < H0.n) : ∀ (k i : Nat) (bad : Bool) (H : Heap) (v : Value) (pre : List (List UInt8)), ts.length - i ≤ k → pre.length + (ts.length - i) ≤ 8192 → Keep (But H0 p) H0 H → RfB R H p b ts i bad →
    Bx H0 H p q2 q3 [nilS, .string (bs [])] [v, .string (bs [])] → Acc (all H0) H 1 v pre.length (STRL pre) → (∀ z, blkOf v = some z → z ≠ q2 ∧ z ≠ q3) →
    ∃ w H', Ev (fun n m => f63_L0 real (AC n) n m (ptr p 0) (ptr q2 0) (ptr q3 0) H) (.agg #[w, .string (bs (altN ⟨wordsOf b (ts.drop i), bad⟩).1.P)], H') ∧ WyP H0 R p b ts i (altN ⟨wordsOf b (ts.drop i), bad⟩).2 H' ∧
      Acc (all H0) H' 1 w (pre ++ (altN ⟨wordsOf b (ts.drop i), bad⟩).1.S).length (STRL (pre ++ (altN ⟨wordsOf b (ts.drop i), bad⟩).1.S)) := by
  intro k
  induction k with
  | zero =>
    intro i bad H v pre hk hpl hK hR hB hA hv
    refine way_stop hRb hT hb hl hK hR hB hp0 hA hv ?_
    rw [List.drop_eq_nil_of_le (by omega)]
    simp [isN, wordsOf]
  | succ k ih =>
    intro i bad H v pre hk hpl hK hR hB hA hv
    cases hi : isN 1 [] ⟨wordsOf b (ts.drop i), bad⟩ with
    | false => exact way_stop hRb hT hb hl hK hR hB hp0 hA hv hi
    | true =>
      obtain ⟨t0, l0, e0⟩ := is_ne hi
      have hlt : i < ts.length := by
        rcases Nat.lt_or_ge i ts.length with h | h
        · exact h
        · rw [List.drop_eq_nil_of_le h] at e0; simp [wordsOf] at e0
      obtain ⟨H1, c1, k1⟩ := is_ok hR hT hb hl 1 []
      rw [hi] at c1
      have k1' : Keep (But H p) H H1 := k1.mono (all_but H p)
      have r1 := hR.move (k1.mono hR.1.2) (k1.2 p hR.2.1)
      have b1 := hB.move k1'
      have a1 := hA.keep k1
      have K1 := keep_up hK k1'
      obtain ⟨H2, i2, c2, k2, r2, l2, g2⟩ := take_ok r1 hT hb hl 1 []
      have es := is_stop hi
      have hvp : blkOf v ≠ some p := fun e => (a1.at e).1 hp0
      have b2 := b1.move k2
      have a2 := a1.box hvp k2
      have K2 := keep_up K1 k2
      have ld : ldC (ptr q3 0) H1 = some (v, H1) := Box.ld (R := fun _ => True) ⟨trivial, _, _, b1.h3⟩ rfl
      have hck : sameBlk H1 H2 (blkOf (ptr q3 0)) = true := Box.blk (R := But H1 p) ⟨⟨b1.l3, b1.p3.symm⟩, _, _, b1.h3⟩ k2
      rw [es] at c2 r2 l2
      simp only at c2 r2 l2
      have hi2 : i2 = i + 1 := by
        have h2 := r2.2.2
        obtain ⟨_, _, _, _, _, hle⟩ := h2
        have : (wordsOf b (ts.drop i2)).length = (wordsOf b (ts.drop i)).length - 1 := by rw [← l2]; simp [Rd.next]
        simp only [wordsOf, List.length_map, List.length_drop] at this
        omega
      subst hi2
      obtain ⟨v', H3, g1, g3, g4, g5⟩ := name_app (s := headN ⟨wordsOf b (ts.drop i), bad⟩) K2.1 a2 (by omega)
      have b3 : Bx H0 H3 p q2 q3 [nilS, .string (bs [])] [v, .string (bs [])] :=
        { b2 with
          h2 := by rw [g4.2 _ ⟨b2.l2, fun e => (hv _ e).1 rfl⟩]; exact b2.h2
          h3 := by rw [g4.2 _ ⟨b2.l3, fun e => (hv _ e).2 rfl⟩]; exact b2.h3
          l2 := Nat.lt_of_lt_of_le b2.l2 g4.1
          l3 := Nat.lt_of_lt_of_le b2.l3 g4.1 }
      have hv' : ∀ z, blkOf v' = some z → z ≠ q2 ∧ z ≠ q3 := fun z e => by
        rcases g5 z e with h | h
        · exact hv z h
        · have := b2.l2; have := b2.l3; omega
      have r3 : RfB R H3 p b ts (i + 1) (Rd.next ⟨wordsOf b (ts.drop i), bad⟩).bad := r2.move (g4.mono fun z hz => ⟨r2.1.2 z hz, fun e => (a2.at e).1 (hRb z hz)⟩) (g4.2 p ⟨r2.2.1, hvp⟩)
      have K3 : Keep (But H0 p) H0 H3 := K2.trans (g4.mono fun z hz => ⟨Nat.lt_of_lt_of_le hz.1 K2.1, fun e => (a2.at e).1 hz.1⟩)
      have o1 := g3.oneC
      have st : stV 1 (ptr q3 0) v' H3 = some (undef, H3.upd q3 (some ⟨[v', .string (bs [])], 1, true⟩)) := stV1_box b3.h3 (by simp) o1.2 o1.1
      obtain ⟨w, H', q1, q2', q3'⟩ := ih (i + 1) (Rd.next ⟨wordsOf b (ts.drop i), bad⟩).bad (H3.upd q3 (some ⟨[v', .string (bs [])], 1, true⟩)) v' (pre ++ [headN ⟨wordsOf b (ts.drop i), bad⟩]) (by omega) (by simp only [List.length_append, List.length_cons, List.length_nil]; omega)
        (keep_upd K3 hB.n3) (r3.box hRb hB.n3 hB.p3) (b3.set3 _) (g3.box (fun e => (hv' _ e).2 rfl) upd_butQ) hv'
      have e3 : (⟨wordsOf b (ts.drop (i + 1)), Rd.bad (Rd.next ⟨wordsOf b (ts.drop i), bad⟩)⟩ : Rd) = Rd.next ⟨wordsOf b (ts.drop i), bad⟩ := by rw [← l2]
      rw [e3] at q1 q2' q3'
      rw [alt_step hi]
      refine ⟨w, H', ?_, ⟨q2'.1, ?_⟩, by simpa using q3'⟩
      · refine Ev.step (fun n m => f63_L0.eq_2 _ _ _ _ _ _ _ _) ?_
        simp only [ruA, ruB, ruC, ruE, ruD, lenStr, Int.reduceBEq, Int.reduceBNe]
        refine Ev.callC c1 ?_
        simp only [ruA, ruB, ruC, ruE, ruD, lenStr, Int.reduceBEq, Int.reduceBNe, ld]
        refine Ev.callC c2 ?_
        simp only [ruA, ruB, ruC, ruE, ruD, lenStr, Int.reduceBEq, Int.reduceBNe, hck, Bool.and_true, b1s, g1, st]
        exact q1
      · obtain ⟨i', h1, h2, h3⟩ := q2'.2
        exact ⟨i', h1, h2, by omega⟩
/-- A way. -/
theorem way_ok {H : Heap} {i : Nat} {bad : Bool} (hR : RfB R H p b ts i bad) (hT : ∀ t ∈ ts, TG b t) (hb : b.length ≤ 8192) (hl : ts.length ≤ 8192) :
    ∃ w H', Cl 63 [ptr p 0] H (.agg #[w, .string (bs (altN ⟨wordsOf b (ts.drop i), bad⟩).1.P)]) H' ∧ WyP H R p b ts i (altN ⟨wordsOf b (ts.drop i), bad⟩).2 H' ∧
      Acc (all H) H' 1 w (altN ⟨wordsOf b (ts.drop i), bad⟩).1.S.length (STRL (altN ⟨wordsOf b (ts.drop i), bad⟩).1.S) := by
  have n0 : newV [.slice none 0 0, .string ⟨#[]⟩] H = some (ptr H.n 0, H.push ⟨[nilS, .string (bs [])], 1, true⟩) := newV_box rfl
  have hp1 : Keep (all H) H (H.push ⟨[nilS, .string (bs [])], 1, true⟩) := push_keep
  have g1 : (H.push ⟨[nilS, .string (bs [])], 1, true⟩).get H.n = some ⟨[nilS, .string (bs [])], 1, true⟩ := push_self
  have m1 : (H.push ⟨[nilS, .string (bs [])], 1, true⟩).n = H.n + 1 := push_n
  generalize H.push ⟨[nilS, .string (bs [])], 1, true⟩ = H1 at *
  have n1 : newV [.slice none 0 0, .string ⟨#[]⟩] H1 = some (ptr H1.n 0, H1.push ⟨[nilS, .string (bs [])], 1, true⟩) := newV_box rfl
  have hp2 : Keep (all H1) H1 (H1.push ⟨[nilS, .string (bs [])], 1, true⟩) := push_keep
  have g2 : (H1.push ⟨[nilS, .string (bs [])], 1, true⟩).get H1.n = some ⟨[nilS, .string (bs [])], 1, true⟩ := push_self
  have m2 : (H1.push ⟨[nilS, .string (bs [])], 1, true⟩).n = H1.n + 1 := push_n
  generalize H1.push ⟨[nilS, .string (bs [])], 1, true⟩ = H2 at *
  have K := hp1.tr hp2
  have hpn := hR.2.1
  obtain ⟨w, H', q1, q2, q3⟩ := way_loop (H0 := H) (q2 := H.n) (q3 := H1.n) hR.1.2 hT hb hl hpn (ts.length - i) i bad H2 nilS [] (Nat.le_refl _) (by simp; omega) (K.mono (all_but H p)) (hR.move (K.mono hR.1.2) (K.2 p hpn))
    ⟨by rw [hp2.2 _ (by show H.n < H1.n; omega)]; exact g1, g2, Nat.le_refl _, by omega, by omega, by omega, by omega, by omega, by omega⟩ Acc.nil (fun z e => by cases e)
  refine ⟨w, H', ?_, q2, q3⟩
  refine Ev.enter (fun n => f63_eq rfl n _ _) ?_
  simp only [f63, ruA, ruB, ruC, ruE, ruD, lenStr, Int.reduceBEq, Int.reduceBNe, n0, n1]
  exact q1.loop
end
end Go.Eng

/- The reference's reader: a rule, a list of precedences, a term. -/
set_option linter.unusedVariables false
set_option linter.unusedSimpArgs false
set_option linter.unusedSectionVars false
set_option maxRecDepth 100000
namespace Go.Eng
open Go Go.Proofs

/-! ### plainly -/
def moreF (n : Nat) (r : Rd) : List Al × Rd := if isN 4 [124] r then altsF n r.next else ([], r)
theorem altsF_succ (n : Nat) (r : Rd) : altsF (n + 1) r = ((altN r).1 :: (moreF n (altN r).2).1, (moreF n (altN r).2).2) := by
  simp only [altsF, moreF]
  split <;> rfl
theorem altsN_more {r : Rd} {n : Nat} (h : r.l.length ≤ n) : altsN r = ((altN r).1 :: (moreF n (altN r).2).1, (moreF n (altN r).2).2) := by
  unfold altsN
  rw [← altsF_succ, altsF_more r.l.length (n + 1) r (Nat.le_refl _) (by omega)]
theorem rd_eta {b : List UInt8} {ts : List Tok} {i : Nat} {r : Rd} (h : r.l = wordsOf b (ts.drop i)) : (⟨wordsOf b (ts.drop i), r.bad⟩ : Rd) = r := by rw [← h]
section
variable {R : Nat → Prop} {H0 : Heap} {p q2 q3 : Nat} {b : List UInt8} {ts : List Tok}
/-- A way more. -/
theorem ways_app {Hs H1 : Heap} {X : Nat → Prop} {v w : Value} {pre : List Al} {a : Al} (hn : H0.n ≤ Hs.n) (hn1 : Hs.n ≤ H1.n) (hA : AccN H0 H1 X v pre) (hw : Acc (all Hs) H1 1 w a.S.length (STRL a.S)) (hX : ∀ z, X z → z < Hs.n) (hv : ∀ z, blkOf v = some z → z < Hs.n) (hl : pre.length ≤ 1000000000000) :
    ∃ v' H2, Eng.app 2 40 v (.slice (some ⟨H1.n, 0, none⟩) 1 1) (H1.push ⟨[w, .string (bs a.P)], 2, true⟩) = some (v', H2) ∧ AccN H0 H2 X v' (pre ++ [a]) ∧ Keep (fun z => z < H1.n ∧ blkOf v ≠ some z) H1 H2 ∧ (∀ z, blkOf v' = some z → blkOf v = some z ∨ H1.n ≤ z) := by
  have hm : mostBytes = 140737488355328 := rfl
  have hsl : Sl (Nst H0 H1 X v) H1 1 w a.S.length (STRL a.S) := hw.read fun z h1 h2 => by
    have hge : Hs.n ≤ z := Nat.le_of_not_lt h1
    exact ⟨by omega, h2, fun hx => by have := hX z hx; omega, fun e => by have := hv z e; omega⟩
  exact hA.add (by_ := 40) (x := a) (c := [w, .string (bs a.P)]) (by omega) (fun hm hk => rep_al.2 ⟨w, rfl, (Sl.keep hsl hk).mono hm⟩) rfl (by omega)
theorem AccN.at {α : Type} [Rp α] {H0 H : Heap} {X : Nat → Prop} {v : Value} {xs : List α} (h : AccN H0 H X v xs) {z : Nat} (e : blkOf v = some z) : H0.n ≤ z ∧ z < H.n := by
  obtain ⟨cs, h1, _⟩ := h
  have := h1.at e
  exact ⟨Nat.le_of_not_lt this.1, this.2⟩
theorem X2_lt {H : Heap} {u2 u3 : List Value} (hB : Bx H0 H p q2 q3 u2 u3) : ∀ z, X2 q2 q3 z → z < H.n := fun z hz => by
  rcases hz with rfl | rfl
  · exact hB.l2
  · exact hB.l3
theorem AccN.but {α : Type} [Rp α] {H H' : Heap} {X : Nat → Prop} {v : Value} {xs : List α} (h : AccN H0 H X v xs) (hv : ∀ q, blkOf v = some q → ¬ X q) (hp0 : p < H0.n) (hk : Keep (But H p) H H') : AccN H0 H' X v xs :=
  h.keep hv (hk.mono fun z hz => ⟨hz.2.1, by have := hz.1; omega⟩)
/-- A way is read and added. -/
theorem ways_step {H : Heap} {i : Nat} {bad : Bool} {v : Value} {pre : List Al} {nm : List UInt8} (hRb : Rb R H0) (hT : ∀ t ∈ ts, TG b t) (hb : b.length ≤ 8192) (hl : ts.length ≤ 8192) (hp0 : p < H0.n) (hK : Keep (But H0 p) H0 H) (hR : RfB R H p b ts i bad)
    (hB : Bx H0 H p q2 q3 [.string (bs []), nilS] [.string (bs nm), v]) (hA : AccN H0 H (X2 q2 q3) v pre) (hv : ∀ z, blkOf v = some z → ¬ X2 q2 q3 z) (hpl : pre.length ≤ 10000) :
    ∃ w v' H1 H2 i', ldC (ptr q3 1) H = some (v, H) ∧ Cl 63 [ptr p 0] H (.agg #[w, .string (bs (altN ⟨wordsOf b (ts.drop i), bad⟩).1.P)]) H1 ∧ sameBlk H H1 (blkOf (ptr q3 1)) = true ∧ Eng.oneC w = true ∧ w.cells = #[w] ∧
      Eng.app 2 40 v (.slice (some ⟨H1.n, 0, none⟩) 1 1) (H1.push ⟨[w, .string (bs (altN ⟨wordsOf b (ts.drop i), bad⟩).1.P)], 2, true⟩) = some (v', H2) ∧ stV 1 (ptr q3 1) v' H2 = some (undef, H2.upd q3 (some ⟨[.string (bs nm), v'], 1, true⟩)) ∧
      Keep (But H0 p) H0 (H2.upd q3 (some ⟨[.string (bs nm), v'], 1, true⟩)) ∧ RfB R (H2.upd q3 (some ⟨[.string (bs nm), v'], 1, true⟩)) p b ts i' (altN ⟨wordsOf b (ts.drop i), bad⟩).2.bad ∧ (altN ⟨wordsOf b (ts.drop i), bad⟩).2.l = wordsOf b (ts.drop i') ∧ i ≤ i' ∧
      Bx H0 (H2.upd q3 (some ⟨[.string (bs nm), v'], 1, true⟩)) p q2 q3 [.string (bs []), nilS] [.string (bs nm), v'] ∧ AccN H0 (H2.upd q3 (some ⟨[.string (bs nm), v'], 1, true⟩)) (X2 q2 q3) v' (pre ++ [(altN ⟨wordsOf b (ts.drop i), bad⟩).1]) ∧ (∀ z, blkOf v' = some z → ¬ X2 q2 q3 z) := by
  obtain ⟨w, H1, c1, ⟨k1, i', r1, l1, g1⟩, a1⟩ := way_ok hR hT hb hl
  have ld : ldC (ptr q3 1) H = some (v, H) := Box.ld (R := fun _ => True) ⟨trivial, _, _, hB.h3⟩ rfl
  have hck : sameBlk H H1 (blkOf (ptr q3 1)) = true := Box.blk (R := But H p) ⟨⟨hB.l3, hB.p3.symm⟩, _, _, hB.h3⟩ k1
  have b1 := hB.move k1
  have A1 := hA.but hv hp0 k1
  have K1 := keep_up hK k1
  have hvlt : ∀ z, blkOf v = some z → z < H.n := fun z e => (hA.at e).2
  obtain ⟨v', H2, g4, g5, g6, g7⟩ := ways_app hK.1 k1.1 A1 a1 (X2_lt hB) hvlt (by omega)
  have hv' : ∀ z, blkOf v' = some z → ¬ X2 q2 q3 z := fun z e => by
    rcases g7 z e with h | h
    · exact hv z h
    · intro hx
      have := X2_lt b1 z hx
      omega
  have q3v : blkOf v ≠ some q3 := fun e => hv q3 e (.inr rfl)
  have q2v : blkOf v ≠ some q2 := fun e => hv q2 e (.inl rfl)
  have pv : blkOf v ≠ some p := fun e => by have := hA.at e; omega
  have b2 : Bx H0 H2 p q2 q3 [.string (bs []), nilS] [.string (bs nm), v] :=
    { b1 with
      h2 := by rw [g6.2 _ ⟨b1.l2, q2v⟩]; exact b1.h2
      h3 := by rw [g6.2 _ ⟨b1.l3, q3v⟩]; exact b1.h3
      l2 := Nat.lt_of_lt_of_le b1.l2 g6.1
      l3 := Nat.lt_of_lt_of_le b1.l3 g6.1 }
  have r2 : RfB R H2 p b ts i' (altN ⟨wordsOf b (ts.drop i), bad⟩).2.bad := r1.move (g6.mono fun z hz => ⟨r1.1.2 z hz, fun e => by have := hA.at e; have := hRb z hz; omega⟩) (g6.2 p ⟨r1.2.1, pv⟩)
  have K2 : Keep (But H0 p) H0 H2 := K1.trans (g6.mono fun z hz => ⟨Nat.lt_of_lt_of_le hz.1 K1.1, fun e => by have := hA.at e; have := hz.1; omega⟩)
  have o1 := a1.oneC
  have o2 := g5.oneC
  have st : stV 1 (ptr q3 1) v' H2 = some (undef, H2.upd q3 (some ⟨[.string (bs nm), v'], 1, true⟩)) := stV1_box b2.h3 (by simp) o2.2 o2.1
  exact ⟨w, v', H1, H2, i', ld, c1, hck, o1.1, o1.2, g4, st, keep_upd K2 hB.n3, r2.box hRb hB.n3 hB.p3, l1, g1, b2.set3 _, g5.keep hv' ((upd_butQ (q := q3)).mono fun z hz => ⟨hz.2.1, fun e => hz.2.2 (.inr e)⟩), hv'⟩
/-- What a rule leaves. -/
def RuP (H0 : Heap) (R : Nat → Prop) (p : Nat) (b : List UInt8) (ts : List Tok) (i : Nat) (X : Nat → Prop) (x : List Al × Rd) (w : Value) (H' : Heap) : Prop :=
  Keep (But H0 p) H0 H' ∧ (∃ i', RfB R H' p b ts i' x.2.bad ∧ x.2.l = wordsOf b (ts.drop i') ∧ i ≤ i') ∧ AccN H0 H' X w x.1
theorem ways_stop {H : Heap} {k i : Nat} {bad : Bool} {v : Value} {pre : List Al} {nm : List UInt8} (hRb : Rb R H0) (hT : ∀ t ∈ ts, TG b t) (hb : b.length ≤ 8192) (hl : ts.length ≤ 8192) (hp0 : p < H0.n) (hK : Keep (But H0 p) H0 H) (hR : RfB R H p b ts i bad)
    (hB : Bx H0 H p q2 q3 [.string (bs []), nilS] [.string (bs nm), v]) (hA : AccN H0 H (X2 q2 q3) v pre) (hv : ∀ z, blkOf v = some z → ¬ X2 q2 q3 z) (hi : isN 4 [124] ⟨wordsOf b (ts.drop i), bad⟩ = false) :
    ∃ w H', Ev (fun n m => f42_L0 real (AC n) n m (ptr p 0) (ptr q2 0) (ptr q3 0) H) (.agg #[.string (bs nm), w], H') ∧ RuP H0 R p b ts i (X2 q2 q3) (pre ++ (moreF k ⟨wordsOf b (ts.drop i), bad⟩).1, (moreF k ⟨wordsOf b (ts.drop i), bad⟩).2) w H' := by
  obtain ⟨H1, c1, k1⟩ := is_ok hR hT hb hl 4 [124]
  rw [hi] at c1
  have k1' : Keep (But H p) H H1 := k1.mono (all_but H p)
  have r1 := hR.move (k1.mono hR.1.2) (k1.2 p hR.2.1)
  have b1 := hB.move k1'
  have A1 := hA.but hv hp0 k1'
  have K1 := keep_up hK k1'
  have o1 := A1.oneC
  have l1 := ld2 b1.h3
  have s1 := st2 (x := .string (bs nm)) (y := v) b1.h2 rfl o1.1
  have l3 := ld2 (H := H1.upd q2 (some ⟨[.string (bs nm), v], 1, true⟩)) (q := q2) (x := .string (bs nm)) (y := v) upd_self
  have em : moreF k ⟨wordsOf b (ts.drop i), bad⟩ = ([], ⟨wordsOf b (ts.drop i), bad⟩) := by unfold moreF; rw [hi]; rfl
  rw [em]
  refine ⟨v, H1.upd q2 (some ⟨[.string (bs nm), v], 1, true⟩), ?_, keep_upd K1 hB.n2, ⟨i, r1.box hRb hB.n2 hB.p2, rfl, Nat.le_refl _⟩, ?_⟩
  · refine Ev.step (fun n m => f42_L0.eq_2 _ _ _ _ _ _ _ _) ?_
    simp only [ruA, ruB, ruC, ruE, ruD, lenStr, Int.reduceBEq, Int.reduceBNe]
    refine Ev.callC c1 ?_
    simp only [ruA, ruB, ruC, ruE, ruD, lenStr, Int.reduceBEq, Int.reduceBNe, l1, s1, l3, Option.map_some, resM1, one1]
    exact Ev.pure _
  · simpa using A1.keep hv ((upd_butQ (q := q2)).mono fun z hz => ⟨hz.2.1, fun e => hz.2.2 (.inl e)⟩)
theorem next_i {i i2 : Nat} {bad : Bool} (hl2 : (Rd.next ⟨wordsOf b (ts.drop i), bad⟩).l = wordsOf b (ts.drop i2)) (hlt : i < ts.length) (hle : i2 ≤ ts.length) : i2 = i + 1 := by
  have : (wordsOf b (ts.drop i2)).length = (wordsOf b (ts.drop i)).length - 1 := by rw [← hl2]; simp [Rd.next]
  simp only [wordsOf, List.length_map, List.length_drop] at this
  omega
theorem is_lt {k i : Nat} {g : List UInt8} {bad : Bool} (hi : isN k g ⟨wordsOf b (ts.drop i), bad⟩ = true) : i < ts.length := by
  obtain ⟨t0, l0, e0⟩ := is_ne hi
  rcases Nat.lt_or_ge i ts.length with h | h
  · exact h
  · rw [List.drop_eq_nil_of_le h] at e0; simp [wordsOf] at e0
/-- Is it, and it is taken. -/
theorem is_take {H : Heap} {i k : Nat} {g : List UInt8} {bad : Bool} (hR : RfB R H p b ts i bad) (hT : ∀ t ∈ ts, TG b t) (hb : b.length ≤ 8192) (hl : ts.length ≤ 8192) (hi : isN k g ⟨wordsOf b (ts.drop i), bad⟩ = true) :
    ∃ H1 H2, Cl 62 [ptr p 0, .int .i64 (k : Int), .string (bs g)] H (.bool true) H1 ∧ Keep (all H) H H1 ∧ Cl 39 [ptr p 0, .int .i64 (k : Int), .string (bs g)] H1 (.string (bs (headN ⟨wordsOf b (ts.drop i), bad⟩))) H2 ∧ Keep (But H1 p) H1 H2 ∧ RfB R H1 p b ts i bad ∧ RfB R H2 p b ts (i + 1) bad ∧
      i < ts.length ∧ Rd.next ⟨wordsOf b (ts.drop i), bad⟩ = ⟨wordsOf b (ts.drop (i + 1)), bad⟩ := by
  obtain ⟨H1, c1, k1⟩ := is_ok hR hT hb hl k g
  rw [hi] at c1
  have r1 := hR.move (k1.mono hR.1.2) (k1.2 p hR.2.1)
  obtain ⟨H2, i2, c2, k2, r2, l2, g2⟩ := take_ok r1 hT hb hl k g
  rw [is_stop hi] at c2 r2 l2
  simp only at c2 r2 l2
  have hlt := is_lt hi
  have hle : i2 ≤ ts.length := by obtain ⟨_, _, _, _, _, _, _, h⟩ := r2; exact h
  obtain rfl := next_i l2 hlt hle
  exact ⟨H1, H2, c1, k1, c2, k2, r1, r2, hlt, by rw [← l2]; rfl⟩
theorem ways_loop (hRb : Rb R H0) (hT : ∀ t ∈ ts, TG b t) (hb : b.length ≤ 8192) (hl : ts.length ≤ 8192) (hp0 : p < H0.n) {nm : List UInt8} : ∀ (k i : Nat) (bad : Bool) (H : Heap) (v : Value) (pre : List Al), ts.length - i ≤ k → pre.length + (ts.length - i) ≤ 8200 → Keep (But H0 p) H0 H → RfB R H p b ts i bad →
    Bx H0 H p q2 q3 [.string (bs []), nilS] [.string (bs nm), v] → AccN H0 H (X2 q2 q3) v pre → (∀ z, blkOf v = some z → ¬ X2 q2 q3 z) →
    ∃ w H', Ev (fun n m => f42_L0 real (AC n) n m (ptr p 0) (ptr q2 0) (ptr q3 0) H) (.agg #[.string (bs nm), w], H') ∧ RuP H0 R p b ts i (X2 q2 q3) (pre ++ (moreF k ⟨wordsOf b (ts.drop i), bad⟩).1, (moreF k ⟨wordsOf b (ts.drop i), bad⟩).2) w H' := by
  intro k
  induction k with
  | zero =>
    intro i bad H v pre hk hpl hK hR hB hA hv
    exact ways_stop hRb hT hb hl hp0 hK hR hB hA hv (by rw [List.drop_eq_nil_of_le (by omega)]; simp [isN, wordsOf])
  | succ k ih =>
    intro i bad H v pre hk hpl hK hR hB hA hv
    cases hi : isN 4 [124] ⟨wordsOf b (ts.drop i), bad⟩ with
    | false => exact ways_stop hRb hT hb hl hp0 hK hR hB hA hv hi
    | true =>
      obtain ⟨H1, H2, c1, k1, c2, k2, r1, r2, hlt, en⟩ := is_take hR hT hb hl hi
      have k1' : Keep (But H p) H H1 := k1.mono (all_but H p)
      have b2 := (hB.move k1').move k2
      have A2 := (hA.but hv hp0 k1').but hv hp0 k2
      have K2 := keep_up (keep_up hK k1') k2
      obtain ⟨w, v', H3, H4, i4, d1, d2, d3, d4, d5, d6, d7, d8, d9, d10, d11, d12, d13, d14⟩ := ways_step hRb hT hb hl hp0 K2 r2 b2 A2 hv (by omega)
      have el := rd_eta d10
      obtain ⟨w', H', q1, q2', ⟨i', q3', q4', q5'⟩, q6'⟩ := ih i4 _ _ v' _ (by omega) (by simp only [List.length_append, List.length_cons, List.length_nil]; omega) d8 d9 d12 d13 d14
      rw [el] at q3' q4' q6'
      have em : moreF (k + 1) ⟨wordsOf b (ts.drop i), bad⟩ = ((altN ⟨wordsOf b (ts.drop (i + 1)), bad⟩).1 :: (moreF k (altN ⟨wordsOf b (ts.drop (i + 1)), bad⟩).2).1, (moreF k (altN ⟨wordsOf b (ts.drop (i + 1)), bad⟩).2).2) := by
        have : moreF (k + 1) ⟨wordsOf b (ts.drop i), bad⟩ = altsF (k + 1) (Rd.next ⟨wordsOf b (ts.drop i), bad⟩) := by unfold moreF; rw [hi]; rfl
        rw [this, en, altsF_succ]
      rw [em]
      refine ⟨w', H', ?_, q2', ⟨i', q3', q4', by omega⟩, by simpa using q6'⟩
      refine Ev.step (fun n m => f42_L0.eq_2 _ _ _ _ _ _ _ _) ?_
      simp only [ruA, ruB, ruC, ruE, ruD, lenStr, Int.reduceBEq, Int.reduceBNe]
      refine Ev.callC c1 ?_
      simp only [ruA, ruB, ruC, ruE, ruD, lenStr, Int.reduceBEq, Int.reduceBNe]
      refine Ev.callC c2 ?_
      simp only [ruA, ruB, ruC, ruE, ruD, lenStr, Int.reduceBEq, Int.reduceBNe, d1]
      refine Ev.callC d2 ?_
      simp only [ruA, ruB, ruC, ruE, ruD, lenStr, Int.reduceBEq, Int.reduceBNe, d3, Bool.and_true, bldS2 d4 d5, d6, d7]
      exact q1
/-- A rule. -/
theorem rrule_ok {H : Heap} {i : Nat} (hR : RfB R H p b ts i false) (hT : ∀ t ∈ ts, TG b t) (hb : b.length ≤ 8192) (hl : ts.length ≤ 8192) (hi : isN 12 [] ⟨wordsOf b (ts.drop i), false⟩ = true) :
    ∃ w H' X, Cl 42 [ptr p 0] H (.agg #[.string (bs (ruleN ⟨wordsOf b (ts.drop (i + 1)), false⟩).1.N), w]) H' ∧ RuP H R p b ts i X ((ruleN ⟨wordsOf b (ts.drop (i + 1)), false⟩).1.A, (ruleN ⟨wordsOf b (ts.drop (i + 1)), false⟩).2) w H' := by
  have n0 : newV [.string ⟨#[]⟩, .slice none 0 0] H = some (ptr H.n 0, H.push ⟨[.string (bs []), nilS], 1, true⟩) := newV_box rfl
  have hp1 : Keep (all H) H (H.push ⟨[.string (bs []), nilS], 1, true⟩) := push_keep
  have g1 : (H.push ⟨[.string (bs []), nilS], 1, true⟩).get H.n = some ⟨[.string (bs []), nilS], 1, true⟩ := push_self
  have m1 : (H.push ⟨[.string (bs []), nilS], 1, true⟩).n = H.n + 1 := push_n
  have hpn := hR.2.1
  have rr := hR.move (hp1.mono hR.1.2) (hp1.2 p hpn)
  generalize H.push ⟨[.string (bs []), nilS], 1, true⟩ = H1 at *
  obtain ⟨_, H2, _, _, c2, k2, _, r2, hlt, en⟩ : ∃ (H1' : Heap) (H2 : Heap), True ∧ True ∧ Cl 39 [ptr p 0, .int .i64 ((12 : Nat) : Int), .string (bs [])] H1 (.string (bs (headN ⟨wordsOf b (ts.drop i), false⟩))) H2 ∧ Keep (But H1 p) H1 H2 ∧ True ∧ RfB R H2 p b ts (i + 1) false ∧ i < ts.length ∧ True := by
    obtain ⟨H2, i2, c2, k2, r2, l2, g2⟩ := take_ok rr hT hb hl 12 []
    rw [is_stop hi] at c2 r2 l2
    simp only at c2 r2 l2
    have hlt := is_lt hi
    have hle : i2 ≤ ts.length := by obtain ⟨_, _, _, _, _, _, _, h⟩ := r2; exact h
    obtain rfl := next_i l2 hlt hle
    exact ⟨H1, H2, trivial, trivial, c2, k2, trivial, r2, hlt, trivial⟩
  obtain ⟨H3, i3, c3, k3, r3, l3, g3⟩ := take_ok r2 hT hb hl 1 []
  have e3 := rd_eta l3
  generalize hY1 : mustN 1 [] ⟨wordsOf b (ts.drop (i + 1)), false⟩ = Y1 at *
  have n3 : newV [.string ⟨#[]⟩, .slice none 0 0] H3 = some (ptr H3.n 0, H3.push ⟨[.string ⟨#[]⟩, nilS], 1, true⟩) := newV_box rfl
  have st : stV 2 (ptr H3.n 0) (.agg #[.string (bs Y1.1), .slice none 0 0]) (H3.push ⟨[.string ⟨#[]⟩, nilS], 1, true⟩) = some (undef, H3.push ⟨[.string (bs Y1.1), nilS], 1, true⟩) := stA_push (ds := [.string (bs Y1.1), nilS]) rfl rfl rfl
  have kp : Keep (all H3) H3 (H3.push ⟨[.string (bs Y1.1), nilS], 1, true⟩) := push_keep
  have g4 : (H3.push ⟨[.string (bs Y1.1), nilS], 1, true⟩).get H3.n = some ⟨[.string (bs Y1.1), nilS], 1, true⟩ := push_self
  have m4 : (H3.push ⟨[.string (bs Y1.1), nilS], 1, true⟩).n = H3.n + 1 := push_n
  have r4 := r3.move (kp.mono r3.1.2) (kp.2 p r3.2.1)
  have hn2 : H1.n ≤ H2.n := k2.1
  have hn3 : H2.n ≤ H3.n := k3.1
  have b4 : Bx H (H3.push ⟨[.string (bs Y1.1), nilS], 1, true⟩) p H.n H3.n [.string (bs []), nilS] [.string (bs Y1.1), nilS] :=
    ⟨by rw [kp.2 _ (by show H.n < H3.n; omega), k3.2 _ ⟨by omega, by omega⟩, k2.2 _ ⟨by omega, by omega⟩]; exact g1, g4, Nat.le_refl _, by omega, by omega, by omega, by omega, by omega, by omega⟩
  generalize H3.push ⟨[.string (bs Y1.1), nilS], 1, true⟩ = H4 at *
  obtain ⟨H5, i5, c5, k5, r5, l5, g5⟩ := take_ok r4 hT hb hl 4 [58]
  rw [e3] at c5 r5 l5
  have e5 := rd_eta l5
  generalize hY2 : mustN 4 [58] Y1.2 = Y2 at *
  have K5 : Keep (But H p) H H5 := keep_up (keep_up (keep_up (keep_up (hp1.mono (all_but H p)) k2) k3) (kp.mono (all_but H3 p))) k5
  obtain ⟨w, v', H6, H7, i7, d1, d2, d3, d4, d5, d6, d7, d8, d9, d10, d11, d12, d13, d14⟩ := ways_step (H0 := H) hR.1.2 hT hb hl hpn K5 r5 (b4.move k5) AccN.nil (fun z e => by cases e) (by simp)
  rw [e5] at d2 d6 d9 d10 d13
  have e7 := rd_eta d10
  obtain ⟨w', H', q1, q2', ⟨i', q3', q4', q5'⟩, q6'⟩ := ways_loop (H0 := H) hR.1.2 hT hb hl hpn (ts.length - i5) i7 _ _ v' _ (by omega) (by simp; omega) d8 d9 d12 d13 d14
  rw [e7] at q3' q4' q6'
  have er : ruleN ⟨wordsOf b (ts.drop (i + 1)), false⟩ = (⟨Y1.1, (altN Y2.2).1 :: (moreF (ts.length - i5) (altN Y2.2).2).1⟩, (moreF (ts.length - i5) (altN Y2.2).2).2) := by
    unfold ruleN
    rw [hY1, hY2, altsN_more (n := ts.length - i5) (by rw [l5]; simp [wordsOf])]
  rw [er]
  refine ⟨w', H', _, ?_, q2', ⟨i', q3', q4', by omega⟩, by simpa using q6'⟩
  refine Ev.enter (fun n => f42_eq rfl n _ _) ?_
  simp only [f42, ruA, ruB, ruC, ruE, ruD, lenStr, Int.reduceBEq, Int.reduceBNe, n0]
  refine Ev.callC c2 ?_
  refine Ev.callC c3 ?_
  simp only [ruA, ruB, ruC, ruE, ruD, lenStr, Int.reduceBEq, Int.reduceBNe, bldRl, n3, st]
  refine Ev.callC c5 ?_
  simp only [ruA, ruB, ruC, ruE, ruD, lenStr, Int.reduceBEq, Int.reduceBNe, d1]
  refine Ev.callC d2 ?_
  simp only [ruA, ruB, ruC, ruE, ruD, lenStr, Int.reduceBEq, Int.reduceBNe, d3, Bool.and_true, bldS2 d4 d5, d6, d7]
  exact q1.loop
/-- The word there. -/
theorem head_ld {H : Heap} {i : Nat} {bad : Bool} (hR : RfB R H p b ts i bad) {t : Tok} (ht : ts[i]? = some t) : ∃ vl x o, ldC (ptr p 1) H = some (vl, H) ∧ ldC (ptr p 2) H = some (.int .i64 (i : Int), H) ∧ iAddrS 3 vl (.int .i64 (i : Int)) = some (ptr x o) ∧ ldC (ptr x o) H = some (.int .i64 (t.K : Int), H) := by
  obtain ⟨hl, hn, vt, vl, g1, g2, g3, g4⟩ := id hR
  obtain ⟨x, o, a1, _, a2, _⟩ := g3.at ht
  exact ⟨vl, x, o, Box.ld (R := fun _ => True) ⟨trivial, _, _, g1⟩ rfl, Box.ld (R := fun _ => True) ⟨trivial, _, _, g1⟩ rfl, a1, a2⟩
theorem head_is {i : Nat} {t : Tok} (ht : ts[i]? = some t) (h4 : t.K ≠ 4) : isN t.K [] ⟨wordsOf b (ts.drop i), false⟩ = true := by
  have hlt := (List.getElem?_eq_some_iff.1 ht).1
  obtain ⟨u, hu, hd⟩ := drop_at (l := ts) hlt
  rw [ht] at hu
  injection hu with hu
  subst hu
  rw [hd]
  simp [isN, wordsOf, h4]
theorem head_take {H : Heap} {i : Nat} {t : Tok} (hR : RfB R H p b ts i false) (hT : ∀ t ∈ ts, TG b t) (hb : b.length ≤ 8192) (hl : ts.length ≤ 8192) (ht : ts[i]? = some t) (h4 : t.K ≠ 4) :
    ∃ H2 s, Cl 39 [ptr p 0, .int .i64 (t.K : Int), .string (bs [])] H (.string (bs s)) H2 ∧ Keep (But H p) H H2 ∧ RfB R H2 p b ts (i + 1) false := by
  have hi := head_is (b := b) ht h4
  obtain ⟨H2, i2, c2, k2, r2, l2, g2⟩ := take_ok hR hT hb hl t.K []
  rw [is_stop hi] at c2 r2 l2
  simp only at c2 r2 l2
  have hlt := is_lt hi
  have hle : i2 ≤ ts.length := by obtain ⟨_, _, _, _, _, _, _, h⟩ := r2; exact h
  obtain rfl := next_i l2 hlt hle
  exact ⟨H2, _, c2, k2, r2⟩
theorem st3b {H : Heap} {q : Nat} {x y z u v w : Value} (h : H.get q = some ⟨[u, v, w], 1, true⟩) (hx : Eng.oneC x = true) (hy : Eng.oneC y = true) (hz : Eng.oneC z = true) : stV 3 (ptr q 0) (.agg #[x, y, z]) H = some (undef, H.upd q (some ⟨[x, y, z], 1, true⟩)) := by
  have e : splice [u, v, w] 0 [x, y, z] = [x, y, z] := by simp [splice]
  simp only [stV, h, Value.cells, e]
  rw [if_pos ⟨rfl, by simp [hx, hy, hz], by simp, Blk.w_mk⟩]
theorem ld3b {H : Heap} {q : Nat} {x y z : Value} (h : H.get q = some ⟨[x, y, z], 1, true⟩) : Eng.ldA 3 (ptr q 0) H = some (.agg #[x, y, z], H) := Box.all (R := fun _ => True) (cs := [x, y, z]) ⟨trivial, _, _, h⟩ rfl
/-- A term. -/
theorem rterm_ok {H : Heap} {i : Nat} {t : Tok} (hR : RfB R H p b ts i false) (hT : ∀ t ∈ ts, TG b t) (hb : b.length ≤ 8192) (hl : ts.length ≤ 8192) (ht : ts[i]? = some t) (hk : t.K = 7 ∨ t.K = 8) :
    ∃ H', Cl 40 [ptr p 0] H (.agg #[.string (bs (termN (decide (t.K = 8)) ⟨wordsOf b (ts.drop (i + 1)), false⟩).1.N), .string (bs (termN (decide (t.K = 8)) ⟨wordsOf b (ts.drop (i + 1)), false⟩).1.P), .bool (termN (decide (t.K = 8)) ⟨wordsOf b (ts.drop (i + 1)), false⟩).1.S]) H' ∧
      WyP H R p b ts i (termN (decide (t.K = 8)) ⟨wordsOf b (ts.drop (i + 1)), false⟩).2 H' := by
  have n0 : newV [.string ⟨#[]⟩, .string ⟨#[]⟩, .bool false] H = some (ptr H.n 0, H.push ⟨[.string ⟨#[]⟩, .string ⟨#[]⟩, .bool false], 1, true⟩) := newV_box rfl
  have hp1 : Keep (all H) H (H.push ⟨[.string ⟨#[]⟩, .string ⟨#[]⟩, .bool false], 1, true⟩) := push_keep
  have g1 : (H.push ⟨[.string ⟨#[]⟩, .string ⟨#[]⟩, .bool false], 1, true⟩).get H.n = some ⟨[.string ⟨#[]⟩, .string ⟨#[]⟩, .bool false], 1, true⟩ := push_self
  have m1 : (H.push ⟨[.string ⟨#[]⟩, .string ⟨#[]⟩, .bool false], 1, true⟩).n = H.n + 1 := push_n
  have hpn := hR.2.1
  have rr := hR.move (hp1.mono hR.1.2) (hp1.2 p hpn)
  generalize H.push ⟨[.string ⟨#[]⟩, .string ⟨#[]⟩, .bool false], 1, true⟩ = H1 at *
  obtain ⟨vl, x, o, e1, e2, e3, e4⟩ := head_ld rr ht
  obtain ⟨H2, s2, c2, k2, r2⟩ := head_take rr hT hb hl ht (by omega)
  obtain ⟨H3, i3, c3, k3, r3, l3, g3⟩ := take_ok r2 hT hb hl 1 []
  have y3 := rd_eta l3
  generalize hY1 : mustN 1 [] ⟨wordsOf b (ts.drop (i + 1)), false⟩ = Y1 at *
  generalize hsk : decide (t.K = 8) = sk
  have e8 : ((t.K : Int) == 8) = sk := by rw [← hsk]; exact k_eq' (a := t.K) (k := 8)
  have n3 : newV [.string ⟨#[]⟩, .string ⟨#[]⟩, .bool false] H3 = some (ptr H3.n 0, H3.push ⟨[.string ⟨#[]⟩, .string ⟨#[]⟩, .bool false], 1, true⟩) := newV_box rfl
  have st : stV 3 (ptr H3.n 0) (.agg #[.string (bs Y1.1), .string ⟨#[]⟩, .bool sk]) (H3.push ⟨[.string ⟨#[]⟩, .string ⟨#[]⟩, .bool false], 1, true⟩) = some (undef, H3.push ⟨[.string (bs Y1.1), .string ⟨#[]⟩, .bool sk], 1, true⟩) := stA_push (ds := [.string (bs Y1.1), .string ⟨#[]⟩, .bool sk]) rfl rfl rfl
  have kp : Keep (all H3) H3 (H3.push ⟨[.string (bs Y1.1), .string ⟨#[]⟩, .bool sk], 1, true⟩) := push_keep
  have g4 : (H3.push ⟨[.string (bs Y1.1), .string ⟨#[]⟩, .bool sk], 1, true⟩).get H3.n = some ⟨[.string (bs Y1.1), .string ⟨#[]⟩, .bool sk], 1, true⟩ := push_self
  have m4 : (H3.push ⟨[.string (bs Y1.1), .string ⟨#[]⟩, .bool sk], 1, true⟩).n = H3.n + 1 := push_n
  have r4 := r3.move (kp.mono r3.1.2) (kp.2 p r3.2.1)
  have hn2 : H1.n ≤ H2.n := k2.1
  have hn3 : H2.n ≤ H3.n := k3.1
  have b4 : Bx H (H3.push ⟨[.string (bs Y1.1), .string ⟨#[]⟩, .bool sk], 1, true⟩) p H.n H3.n [.string ⟨#[]⟩, .string ⟨#[]⟩, .bool false] [.string (bs Y1.1), .string ⟨#[]⟩, .bool sk] :=
    ⟨by rw [kp.2 _ (by show H.n < H3.n; omega), k3.2 _ ⟨by omega, by omega⟩, k2.2 _ ⟨by omega, by omega⟩]; exact g1, g4, Nat.le_refl _, by omega, by omega, by omega, by omega, by omega, by omega⟩
  generalize H3.push ⟨[.string (bs Y1.1), .string ⟨#[]⟩, .bool sk], 1, true⟩ = H4 at *
  obtain ⟨H5, i5, c5, k5, r5, l5, g5⟩ := take_ok r4 hT hb hl 4 [61]
  rw [y3] at c5 r5 l5
  have y5 := rd_eta l5
  generalize hY2 : mustN 4 [61] Y1.2 = Y2 at *
  obtain ⟨H6, i6, c6, k6, r6, l6, g6⟩ := take_ok r5 hT hb hl 3 []
  rw [y5] at c6 r6 l6
  generalize hY3 : mustN 3 [] Y2.2 = Y3 at *
  have K6 : Keep (But H p) H H6 := keep_up (keep_up (keep_up (keep_up (keep_up (hp1.mono (all_but H p)) k2) k3) (kp.mono (all_but H3 p))) k5) k6
  have b6 := (b4.move k5).move k6
  have st6 : stV 1 (ptr H3.n 1) (.string (bs Y3.1)) H6 = some (undef, H6.upd H3.n (some ⟨[.string (bs Y1.1), .string (bs Y3.1), .bool sk], 1, true⟩)) := stV1_box b6.h3 (by simp) rfl rfl
  have b7 := b6.set3 [.string (bs Y1.1), .string (bs Y3.1), .bool sk]
  have ld7 := ld3b b7.h3
  have st7 := st3b (x := .string (bs Y1.1)) (y := .string (bs Y3.1)) (z := .bool sk) b7.h2 rfl rfl rfl
  have ld8 := ld3b (b7.set2 [.string (bs Y1.1), .string (bs Y3.1), .bool sk]).h2
  have r8 := (r6.box (y := some ⟨[.string (bs Y1.1), .string (bs Y3.1), .bool sk], 1, true⟩) hR.1.2 b6.n3 b6.p3).box (y := some ⟨[.string (bs Y1.1), .string (bs Y3.1), .bool sk], 1, true⟩) hR.1.2 b6.n2 b6.p2
  have et : termN sk ⟨wordsOf b (ts.drop (i + 1)), false⟩ = (⟨Y1.1, Y3.1, sk⟩, Y3.2) := by
    unfold termN
    rw [hY1, hY2, hY3]
  rw [et]
  refine ⟨_, ?_, keep_upd (keep_upd K6 b6.n3) b6.n2, i6, r8, l6, by omega⟩
  refine Ev.enter (fun n => f40_eq rfl n _ _) ?_
  simp only [f40, ruA, ruB, ruC, ruE, ruD, lenStr, Int.reduceBEq, Int.reduceBNe, n0, e1, e2, e3, e4, Nat.add_zero]
  refine Ev.callC c2 ?_
  refine Ev.callC c3 ?_
  simp only [ruA, ruB, ruC, ruE, ruD, lenStr, Int.reduceBEq, Int.reduceBNe, e8, bld0T, n3, st]
  refine Ev.callC c5 ?_
  refine Ev.callC c6 ?_
  simp only [ruA, ruB, ruC, ruE, ruD, lenStr, Int.reduceBEq, Int.reduceBNe, st6, ld7, st7, ld8, Option.map_some, resM1, one1]
  exact Ev.pure _
theorem bldPk {H : Heap} {x : Int} : bld [.int .i64 0, .slice none 0 0] [(0, 1, .int .i64 x)] H = some (.agg #[.int .i64 x, .slice none 0 0], H) := by kernel_rfl
theorem prec_stop {H : Heap} {i : Nat} {bad : Bool} {v : Value} {pre : List (List UInt8)} {kd : Int} (hRb : Rb R H0) (hT : ∀ t ∈ ts, TG b t) (hb : b.length ≤ 8192) (hl : ts.length ≤ 8192) (hK : Keep (But H0 p) H0 H) (hR : RfB R H p b ts i bad)
    (hB : Bx H0 H p q2 q3 [.int .i64 0, nilS] [.int .i64 kd, v]) (hA : Acc (all H0) H 1 v pre.length (STRL pre)) (hv : ∀ z, blkOf v = some z → z ≠ q2 ∧ z ≠ q3) (hi : isN 1 [] ⟨wordsOf b (ts.drop i), bad⟩ = false) :
    ∃ w H', Ev (fun n m => f41_L0 real (AC n) n m (ptr p 0) (ptr q2 0) (ptr q3 0) H) (.agg #[.int .i64 kd, w], H') ∧ WyP H0 R p b ts i (namesN ⟨wordsOf b (ts.drop i), bad⟩).2 H' ∧
      Acc (all H0) H' 1 w (pre ++ (namesN ⟨wordsOf b (ts.drop i), bad⟩).1).length (STRL (pre ++ (namesN ⟨wordsOf b (ts.drop i), bad⟩).1)) := by
  rw [names_stop hi]
  obtain ⟨H1, c1, k1⟩ := is_ok hR hT hb hl 1 []
  rw [hi] at c1
  have k1' : Keep (But H p) H H1 := k1.mono (all_but H p)
  have r1 := hR.move (k1.mono hR.1.2) (k1.2 p hR.2.1)
  have b1 := hB.move k1'
  have a1 := hA.keep k1
  have K1 := keep_up hK k1'
  have o1 := a1.oneC
  have l1 := ld2 b1.h3
  have s1 := st2 (x := .int .i64 kd) (y := v) b1.h2 rfl o1.1
  have l3 := ld2 (H := H1.upd q2 (some ⟨[.int .i64 kd, v], 1, true⟩)) (q := q2) (x := .int .i64 kd) (y := v) upd_self
  refine ⟨v, H1.upd q2 (some ⟨[.int .i64 kd, v], 1, true⟩), ?_, ⟨keep_upd K1 hB.n2, i, r1.box hRb hB.n2 hB.p2, rfl, Nat.le_refl _⟩, ?_⟩
  · refine Ev.step (fun n m => f41_L0.eq_2 _ _ _ _ _ _ _ _) ?_
    simp only [ruA, ruB, ruC, ruE, ruD, lenStr, Int.reduceBEq, Int.reduceBNe]
    refine Ev.callC c1 ?_
    simp only [ruA, ruB, ruC, ruE, ruD, lenStr, Int.reduceBEq, Int.reduceBNe, l1, s1, l3, Option.map_some, resM1, one1]
    exact Ev.pure _
  · simpa using a1.box (fun e => (hv _ e).1 rfl) upd_butQ
/-- A name is taken and added. -/
theorem prec_step {H : Heap} {v : Value} {pre : List (List UInt8)} {kd : Int} {s : List UInt8} {i2 : Nat} {bad2 : Bool} {H2 : Heap} (hRb : Rb R H0) (hp0 : p < H0.n) (hK : Keep (But H0 p) H0 H)
    (hB : Bx H0 H p q2 q3 [.int .i64 0, nilS] [.int .i64 kd, v]) (hA : Acc (all H0) H 1 v pre.length (STRL pre)) (hv : ∀ z, blkOf v = some z → z ≠ q2 ∧ z ≠ q3) (k2 : Keep (But H p) H H2) (r2 : RfB R H2 p b ts i2 bad2) (hpl : pre.length ≤ 10000) :
    ∃ v' H3, ldC (ptr q3 1) H = some (v, H) ∧ sameBlk H H2 (blkOf (ptr q3 1)) = true ∧ Eng.app 1 16 v (.slice (some ⟨H2.n, 0, none⟩) 1 1) (H2.push ⟨[.string (bs s)], 1, true⟩) = some (v', H3) ∧ stV 1 (ptr q3 1) v' H3 = some (undef, H3.upd q3 (some ⟨[.int .i64 kd, v'], 1, true⟩)) ∧
      Keep (But H0 p) H0 (H3.upd q3 (some ⟨[.int .i64 kd, v'], 1, true⟩)) ∧ RfB R (H3.upd q3 (some ⟨[.int .i64 kd, v'], 1, true⟩)) p b ts i2 bad2 ∧ Bx H0 (H3.upd q3 (some ⟨[.int .i64 kd, v'], 1, true⟩)) p q2 q3 [.int .i64 0, nilS] [.int .i64 kd, v'] ∧
      Acc (all H0) (H3.upd q3 (some ⟨[.int .i64 kd, v'], 1, true⟩)) 1 v' (pre ++ [s]).length (STRL (pre ++ [s])) ∧ (∀ z, blkOf v' = some z → z ≠ q2 ∧ z ≠ q3) := by
  have hvp : blkOf v ≠ some p := fun e => (hA.at e).1 hp0
  have b2 := hB.move k2
  have a2 := hA.box hvp k2
  have K2 := keep_up hK k2
  have ld : ldC (ptr q3 1) H = some (v, H) := Box.ld (R := fun _ => True) ⟨trivial, _, _, hB.h3⟩ rfl
  have hck : sameBlk H H2 (blkOf (ptr q3 1)) = true := Box.blk (R := But H p) ⟨⟨hB.l3, hB.p3.symm⟩, _, _, hB.h3⟩ k2
  obtain ⟨v', H3, g1, g3, g4, g5⟩ := name_app (s := s) K2.1 a2 hpl
  have b3 : Bx H0 H3 p q2 q3 [.int .i64 0, nilS] [.int .i64 kd, v] :=
    { b2 with
      h2 := by rw [g4.2 _ ⟨b2.l2, fun e => (hv _ e).1 rfl⟩]; exact b2.h2
      h3 := by rw [g4.2 _ ⟨b2.l3, fun e => (hv _ e).2 rfl⟩]; exact b2.h3
      l2 := Nat.lt_of_lt_of_le b2.l2 g4.1
      l3 := Nat.lt_of_lt_of_le b2.l3 g4.1 }
  have hv' : ∀ z, blkOf v' = some z → z ≠ q2 ∧ z ≠ q3 := fun z e => by
    rcases g5 z e with h | h
    · exact hv z h
    · have := b2.l2; have := b2.l3; omega
  have r3 : RfB R H3 p b ts i2 bad2 := r2.move (g4.mono fun z hz => ⟨r2.1.2 z hz, fun e => (a2.at e).1 (hRb z hz)⟩) (g4.2 p ⟨r2.2.1, hvp⟩)
  have K3 : Keep (But H0 p) H0 H3 := K2.trans (g4.mono fun z hz => ⟨Nat.lt_of_lt_of_le hz.1 K2.1, fun e => (a2.at e).1 hz.1⟩)
  have o1 := g3.oneC
  have st : stV 1 (ptr q3 1) v' H3 = some (undef, H3.upd q3 (some ⟨[.int .i64 kd, v'], 1, true⟩)) := stV1_box b3.h3 (by simp) o1.2 o1.1
  exact ⟨v', H3, ld, hck, g1, st, keep_upd K3 hB.n3, r3.box hRb hB.n3 hB.p3, b3.set3 _, g3.box (fun e => (hv' _ e).2 rfl) upd_butQ, hv'⟩
theorem prec_loop (hRb : Rb R H0) (hT : ∀ t ∈ ts, TG b t) (hb : b.length ≤ 8192) (hl : ts.length ≤ 8192) (hp0 : p < H0.n) {kd : Int} : ∀ (k i : Nat) (bad : Bool) (H : Heap) (v : Value) (pre : List (List UInt8)), ts.length - i ≤ k → pre.length + (ts.length - i) ≤ 8200 → Keep (But H0 p) H0 H → RfB R H p b ts i bad →
    Bx H0 H p q2 q3 [.int .i64 0, nilS] [.int .i64 kd, v] → Acc (all H0) H 1 v pre.length (STRL pre) → (∀ z, blkOf v = some z → z ≠ q2 ∧ z ≠ q3) →
    ∃ w H', Ev (fun n m => f41_L0 real (AC n) n m (ptr p 0) (ptr q2 0) (ptr q3 0) H) (.agg #[.int .i64 kd, w], H') ∧ WyP H0 R p b ts i (namesN ⟨wordsOf b (ts.drop i), bad⟩).2 H' ∧
      Acc (all H0) H' 1 w (pre ++ (namesN ⟨wordsOf b (ts.drop i), bad⟩).1).length (STRL (pre ++ (namesN ⟨wordsOf b (ts.drop i), bad⟩).1)) := by
  intro k
  induction k with
  | zero =>
    intro i bad H v pre hk hpl hK hR hB hA hv
    exact prec_stop hRb hT hb hl hK hR hB hA hv (by rw [List.drop_eq_nil_of_le (by omega)]; simp [isN, wordsOf])
  | succ k ih =>
    intro i bad H v pre hk hpl hK hR hB hA hv
    cases hi : isN 1 [] ⟨wordsOf b (ts.drop i), bad⟩ with
    | false => exact prec_stop hRb hT hb hl hK hR hB hA hv hi
    | true =>
      obtain ⟨H1, H2, c1, k1, c2, k2, r1, r2, hlt, en⟩ := is_take hR hT hb hl hi
      have k1' : Keep (But H p) H H1 := k1.mono (all_but H p)
      obtain ⟨v', H3, d1, d2, d3, d4, d5, d6, d7, d8, d9⟩ := prec_step (s := headN ⟨wordsOf b (ts.drop i), bad⟩) hRb hp0 (keep_up hK k1') (hB.move k1') (hA.keep k1) hv k2 r2 (by omega)
      obtain ⟨w, H', q1, ⟨q2', i', q3', q4', q5'⟩, q6'⟩ := ih (i + 1) bad _ v' _ (by omega) (by simp only [List.length_append, List.length_cons, List.length_nil]; omega) d5 d6 d7 d8 d9
      rw [names_step hi, en]
      refine ⟨w, H', ?_, ⟨q2', i', q3', q4', by omega⟩, by simpa using q6'⟩
      refine Ev.step (fun n m => f41_L0.eq_2 _ _ _ _ _ _ _ _) ?_
      simp only [ruA, ruB, ruC, ruE, ruD, lenStr, Int.reduceBEq, Int.reduceBNe]
      refine Ev.callC c1 ?_
      simp only [ruA, ruB, ruC, ruE, ruD, lenStr, Int.reduceBEq, Int.reduceBNe, d1]
      refine Ev.callC c2 ?_
      simp only [ruA, ruB, ruC, ruE, ruD, lenStr, Int.reduceBEq, Int.reduceBNe, d2, Bool.and_true, b1s, d3, d4]
      exact q1
/-- A list of precedences. -/
theorem rprec_ok {H : Heap} {i : Nat} {t : Tok} (hR : RfB R H p b ts i false) (hT : ∀ t ∈ ts, TG b t) (hb : b.length ≤ 8192) (hl : ts.length ≤ 8192) (ht : ts[i]? = some t) (hk : t.K = 9 ∨ t.K = 10 ∨ t.K = 11) :
    ∃ w H', Cl 41 [ptr p 0] H (.agg #[.int .i64 (precN t.K ⟨wordsOf b (ts.drop (i + 1)), false⟩).1.K, w]) H' ∧ WyP H R p b ts i (precN t.K ⟨wordsOf b (ts.drop (i + 1)), false⟩).2 H' ∧
      Acc (all H) H' 1 w (precN t.K ⟨wordsOf b (ts.drop (i + 1)), false⟩).1.N.length (STRL (precN t.K ⟨wordsOf b (ts.drop (i + 1)), false⟩).1.N) := by
  have n0 : newV [.int .i64 0, .slice none 0 0] H = some (ptr H.n 0, H.push ⟨[.int .i64 0, nilS], 1, true⟩) := newV_box rfl
  have hp1 : Keep (all H) H (H.push ⟨[.int .i64 0, nilS], 1, true⟩) := push_keep
  have g1 : (H.push ⟨[.int .i64 0, nilS], 1, true⟩).get H.n = some ⟨[.int .i64 0, nilS], 1, true⟩ := push_self
  have m1 : (H.push ⟨[.int .i64 0, nilS], 1, true⟩).n = H.n + 1 := push_n
  have hpn := hR.2.1
  have rr := hR.move (hp1.mono hR.1.2) (hp1.2 p hpn)
  generalize H.push ⟨[.int .i64 0, nilS], 1, true⟩ = H1 at *
  obtain ⟨vl, x, o, e1, e2, e3, e4⟩ := head_ld rr ht
  obtain ⟨H3, s2, c2, k2, r2⟩ := head_take rr hT hb hl ht (by omega)
  have ar : IntKind.i64.wrap ((t.K : Int) - 8) = (t.K : Int) - 8 := wrap_i64 (by omega) (by omega)
  have n3 : newV [.int .i64 0, .slice none 0 0] H3 = some (ptr H3.n 0, H3.push ⟨[.int .i64 0, nilS], 1, true⟩) := newV_box rfl
  have st : stV 2 (ptr H3.n 0) (.agg #[.int .i64 ((t.K : Int) - 8), .slice none 0 0]) (H3.push ⟨[.int .i64 0, nilS], 1, true⟩) = some (undef, H3.push ⟨[.int .i64 ((t.K : Int) - 8), nilS], 1, true⟩) := stA_push (ds := [.int .i64 ((t.K : Int) - 8), nilS]) rfl rfl rfl
  have kp : Keep (all H3) H3 (H3.push ⟨[.int .i64 ((t.K : Int) - 8), nilS], 1, true⟩) := push_keep
  have g4 : (H3.push ⟨[.int .i64 ((t.K : Int) - 8), nilS], 1, true⟩).get H3.n = some ⟨[.int .i64 ((t.K : Int) - 8), nilS], 1, true⟩ := push_self
  have m4 : (H3.push ⟨[.int .i64 ((t.K : Int) - 8), nilS], 1, true⟩).n = H3.n + 1 := push_n
  have r4 := r2.move (kp.mono r2.1.2) (kp.2 p r2.2.1)
  have hn3 : H1.n ≤ H3.n := k2.1
  have b4 : Bx H (H3.push ⟨[.int .i64 ((t.K : Int) - 8), nilS], 1, true⟩) p H.n H3.n [.int .i64 0, nilS] [.int .i64 ((t.K : Int) - 8), nilS] :=
    ⟨by rw [kp.2 _ (by show H.n < H3.n; omega), k2.2 _ ⟨by omega, by omega⟩]; exact g1, g4, Nat.le_refl _, by omega, by omega, by omega, by omega, by omega, by omega⟩
  have K4 : Keep (But H p) H (H3.push ⟨[.int .i64 ((t.K : Int) - 8), nilS], 1, true⟩) := keep_up (keep_up (hp1.mono (all_but H p)) k2) (kp.mono (all_but H3 p))
  generalize H3.push ⟨[.int .i64 ((t.K : Int) - 8), nilS], 1, true⟩ = H4 at *
  obtain ⟨H5, i5, c5, k5, r5, l5, g5⟩ := take_ok r4 hT hb hl 1 []
  have y5 := rd_eta l5
  generalize hY1 : mustN 1 [] ⟨wordsOf b (ts.drop (i + 1)), false⟩ = Y1 at *
  obtain ⟨v', H6, d1, d2, d3, d4, d5, d6, d7, d8, d9⟩ := prec_step (H0 := H) (s := Y1.1) (pre := []) hR.1.2 hpn K4 b4 Acc.nil (fun z e => by cases e) k5 r5 (by simp)
  obtain ⟨w, H', q1, ⟨q2', i', q3', q4', q5'⟩, q6'⟩ := prec_loop (H0 := H) hR.1.2 hT hb hl hpn (ts.length - i5) i5 _ _ v' _ (Nat.le_refl _) (by simp; omega) d5 d6 d7 d8 d9
  rw [y5] at q3' q4' q6'
  have ep : precN t.K ⟨wordsOf b (ts.drop (i + 1)), false⟩ = (⟨(t.K : Int) - 8, Y1.1 :: (namesN Y1.2).1⟩, (namesN Y1.2).2) := by
    unfold precN
    rw [hY1]
  rw [ep]
  refine ⟨w, H', ?_, ⟨q2', i', q3', q4', by omega⟩, by simpa using q6'⟩
  refine Ev.enter (fun n => f41_eq rfl n _ _) ?_
  simp only [f41, ruA, ruB, ruC, ruE, ruD, lenStr, Int.reduceBEq, Int.reduceBNe, n0, e1, e2, e3, e4, Nat.add_zero]
  refine Ev.callC c2 ?_
  simp only [ruA, ruB, ruC, ruE, ruD, lenStr, Int.reduceBEq, Int.reduceBNe, ar, bldPk, n3, st, d1]
  refine Ev.callC c5 ?_
  simp only [ruA, ruB, ruC, ruE, ruD, lenStr, Int.reduceBEq, Int.reduceBNe, d2, Bool.and_true, b1s, d3, d4]
  exact q1.loop
end
end Go.Eng

/- The reference's Parse. -/
set_option linter.unusedVariables false
set_option linter.unusedSimpArgs false
set_option linter.unusedSectionVars false
set_option maxRecDepth 100000
namespace Go.Eng
open Go Go.Proofs

section
variable {R : Nat → Prop} {H0 H : Heap} {p q : Nat} {b : List UInt8} {f : Fl} {ts : List Tok} {i : Nat} {bad : Bool} {t : Tok}
/-- What a line leaves. -/
def LrP (H0 : Heap) (R : Nat → Prop) (p q : Nat) (b : List UInt8) (ts : List Tok) (i : Nat) (x : Fl × Rd) (H' : Heap) : Prop :=
  ∃ i', RfB R H' p b ts i' x.2.bad ∧ x.2.l = wordsOf b (ts.drop i') ∧ i ≤ i' ∧ FlB H0 H' p q x.1
theorem LrP.of {i2 : Nat} {x : Fl × Rd} {H' : Heap} (h : LrP H0 R p q b ts i2 x H') (hs : i ≤ i2) : LrP H0 R p q b ts i x H' := by
  obtain ⟨i', r, l, s, g⟩ := h
  exact ⟨i', r, l, by omega, g⟩
theorem rf_low {H0 H H' : Heap} {p : Nat} (h : RfB R H p b ts i bad) (hRb : Rb R H0) (hk : Keep (fun x => x < H0.n ∨ x = p) H H') : RfB R H' p b ts i bad := h.move (hk.mono fun x hx => .inl (hRb x hx)) (hk.2 p (.inr rfl))
theorem rline_J1 (hRb : Rb R H0) (hR : RfB R H p b ts i bad) (hT : ∀ t ∈ ts, TG b t) (hb : b.length ≤ 8192) (hl : ts.length ≤ 8192) (hf : FlB H0 H p q f) :
    ∃ H', Ev (fun n m => f20_J1 real (AC n) n (ptr p 0) H) (.tuple #[], H') ∧ Keep (all H0) H H' ∧ LrP H0 R p q b ts i (f, (mustN 4 [59] ⟨wordsOf b (ts.drop i), bad⟩).2) H' := by
  obtain ⟨H', i', c, k, r, l, s'⟩ := take_ok hR hT hb hl 4 [59]
  have h0 : H0.n ≤ p ∧ H0.n ≤ H.n := by obtain ⟨_, _, _, _, h⟩ := hf; exact ⟨h.p0, h.hn⟩
  refine ⟨H', ?_, but_low h0.1 h0.2 k, i', r, l, s', hf.move k⟩
  simp only [f20_J1, ruA, ruB, ruC, ruE, ruD, lenStr, Int.reduceBEq, Int.reduceBNe]
  refine Ev.callC c ?_
  exact Ev.pure _
variable (hRb : Rb R H0) (hR : RfB R H p b ts i false) (ht : ts[i]? = some t) (hT : ∀ t ∈ ts, TG b t) (hb : b.length ≤ 8192) (hl : ts.length ≤ 8192) (hf : FlB H0 H p q f) (hfl : flen f ≤ 8192)
include hRb hR ht hT hb hl hf hfl
theorem rline_I (hk : t.K = 5) : ∃ H', Cl 20 [ptr p 0, ptr q 0] H (.tuple #[]) H' ∧ Keep (all H0) H H' ∧ LrP H0 R p q b ts i (lineN ⟨t.K, saysN b t⟩ (wordsOf b (ts.drop (i + 1))) f) H' := by
  obtain ⟨vl, x, o, p1, p2, p3, p4⟩ := head_ld hR ht
  have p4 : ldC (ptr x o) H = some (.int .i64 5, H) := by rw [p4, hk]; rfl
  obtain ⟨H1, _, c1, k1, r1⟩ := head_take hR hT hb hl ht (by omega)
  rw [hk] at c1
  obtain ⟨va, vb, vc, vd, h4⟩ := hf.move k1
  have h0 : H0.n ≤ H.n := by obtain ⟨_, _, _, _, h⟩ := hf; exact h.hn
  have ld : ldC (ptr q 0) H1 = some (va, H1) := Box.ld (R := fun _ => True) ⟨trivial, _, _, h4.g⟩ rfl
  obtain ⟨H2, i2, c2, k2, r2, l2, s2⟩ := take_ok r1 hT hb hl 2 []
  have y2 := rd_eta l2
  generalize hY : mustN 2 [] ⟨wordsOf b (ts.drop (i + 1)), false⟩ = Y at *
  have hck : sameBlk H1 H2 (blkOf (ptr q 0)) = true := Box.blk (R := But H1 p) ⟨⟨h4.qn, h4.pq.symm⟩, _, _, h4.g⟩ k2
  have g4 := h4.move k2
  obtain ⟨v', H3, a1, a2, a3, a4⟩ := g4.addI (x := Y.1) (cx := [.string (bs Y.1)]) rfl (by unfold flen at hfl; omega)
  have r3 := rf_low r2 hRb a4
  obtain ⟨H', j1, j2, j3⟩ := rline_J1 hRb r3 hT hb hl ⟨_, _, _, _, a3⟩
  rw [y2] at j3
  rw [line_good (by rw [hk]; rfl), hk]
  have e : bodyN 5 ⟨wordsOf b (ts.drop (i + 1)), false⟩ f = ({ f with I := f.I ++ [Y.1] }, Y.2) := by rw [← hY]; rfl
  rw [e]
  refine ⟨H', ?_, (but_low h4.p0 h0 k1).trans (((but_low h4.p0 h4.hn k2).trans (a4.mono fun x hx => .inl hx)).trans j2), j3.of (by omega)⟩
  refine Ev.enter (fun n => f20_eq rfl n _ _ _) ?_
  simp only [f20, ruA, ruB, ruC, ruE, ruD, lenStr, Int.reduceBEq, Int.reduceBNe, Nat.add_zero, p1, p2, p3, p4]
  refine Ev.callC c1 ?_
  simp only [ruA, ruB, ruC, ruE, ruD, lenStr, Int.reduceBEq, Int.reduceBNe, ld]
  refine Ev.callC c2 ?_
  simp only [ruA, ruB, ruC, ruE, ruD, lenStr, Int.reduceBEq, Int.reduceBNe, hck, Bool.and_true, b1s, a1, a2]
  exact j1
theorem rline_S (hk : t.K = 6) (hS : f.S = []) : ∃ H', Cl 20 [ptr p 0, ptr q 0] H (.tuple #[]) H' ∧ Keep (all H0) H H' ∧ LrP H0 R p q b ts i (lineN ⟨t.K, saysN b t⟩ (wordsOf b (ts.drop (i + 1))) f) H' := by
  obtain ⟨vl, x, o, p1, p2, p3, p4⟩ := head_ld hR ht
  have p4 : ldC (ptr x o) H = some (.int .i64 6, H) := by rw [p4, hk]; rfl
  have lS : ldC (ptr q 1) H = some (.string (bs f.S), H) := by obtain ⟨_, _, _, _, h⟩ := hf; exact Box.ld (R := fun _ => True) ⟨trivial, _, _, h.g⟩ rfl
  obtain ⟨H1, _, c1, k1, r1⟩ := head_take hR hT hb hl ht (by omega)
  rw [hk] at c1
  have h0 : H0.n ≤ H.n := by obtain ⟨_, _, _, _, h⟩ := hf; exact h.hn
  obtain ⟨va, vb, vc, vd, h4⟩ := hf.move k1
  obtain ⟨H2, i2, c2, k2, r2, l2, s2⟩ := take_ok r1 hT hb hl 1 []
  have y2 := rd_eta l2
  generalize hY : mustN 1 [] ⟨wordsOf b (ts.drop (i + 1)), false⟩ = Y at *
  have g4 := h4.move k2
  obtain ⟨a2, a3, a4⟩ := g4.setS Y.1
  have k4 : Keep (fun x => x < H0.n ∨ x = p) H2 (H2.upd q (some ⟨[va, .string (bs Y.1), vb, vc, vd], 1, true⟩)) := a4.mono fun x hx => by
    have := g4.q0; have := g4.qn; have := g4.pq; have := g4.pn
    rcases hx with hx | hx
    · exact ⟨by omega, by omega⟩
    · exact ⟨by omega, by omega⟩
  have r3 := rf_low r2 hRb k4
  obtain ⟨H', j1, j2, j3⟩ := rline_J1 hRb r3 hT hb hl ⟨_, _, _, _, a3⟩
  rw [y2] at j3
  have hbad : badN t.K f = false := by rw [hk]; simp [badN, hS]
  rw [line_good hbad, hk]
  have e : bodyN 6 ⟨wordsOf b (ts.drop (i + 1)), false⟩ f = ({ f with S := Y.1 }, Y.2) := by rw [← hY]; rfl
  rw [e]
  refine ⟨H', ?_, (but_low h4.p0 h0 k1).trans (((but_low h4.p0 h4.hn k2).trans (k4.mono fun x hx => .inl hx)).trans j2), j3.of (by omega)⟩
  refine Ev.enter (fun n => f20_eq rfl n _ _ _) ?_
  simp only [f20, ruA, ruB, ruC, ruE, ruD, lenStr, Int.reduceBEq, Int.reduceBNe, Nat.add_zero, p1, p2, p3, p4, lS, e_empty', decide_eq_true hS]
  refine Ev.callC c1 ?_
  refine Ev.callC c2 ?_
  simp only [ruA, ruB, ruC, ruE, ruD, lenStr, Int.reduceBEq, Int.reduceBNe, a2]
  exact j1
theorem rline_bad (hk : t.K ≤ 13) (hB : badN t.K f = true) : ∃ H', Cl 20 [ptr p 0, ptr q 0] H (.tuple #[]) H' ∧ Keep (all H0) H H' ∧ LrP H0 R p q b ts i (lineN ⟨t.K, saysN b t⟩ (wordsOf b (ts.drop (i + 1))) f) H' := by
  obtain ⟨vl, x, o, p1, p2, p3, p4⟩ := head_ld hR ht
  have lS : ldC (ptr q 1) H = some (.string (bs f.S), H) := by obtain ⟨_, _, _, _, h⟩ := hf; exact Box.ld (R := fun _ => True) ⟨trivial, _, _, h.g⟩ rfl
  have h0 : H0.n ≤ p ∧ H0.n ≤ H.n := by obtain ⟨_, _, _, _, h⟩ := hf; exact ⟨h.p0, h.hn⟩
  obtain ⟨hl', hn, vt, vl2, g1, g2, g3, g4⟩ := id hR
  have st : stV 1 (ptr p 3) (.bool true) H = some (undef, H.upd p (some ⟨[vt, vl2, .int .i64 (i : Int), .bool true], 1, true⟩)) := stV1_box g1 (by simp) rfl rfl
  have k : Keep (But H p) H (H.upd p (some ⟨[vt, vl2, .int .i64 (i : Int), .bool true], 1, true⟩)) := upd_but
  have kR : Keep R H (H.upd p (some ⟨[vt, vl2, .int .i64 (i : Int), .bool true], 1, true⟩)) := Keep.upd hl'.1
  have r : RfB R (H.upd p (some ⟨[vt, vl2, .int .i64 (i : Int), .bool true], 1, true⟩)) p b ts i true := ⟨⟨hl'.1, hl'.2.mono kR.1⟩, by rw [upd_n]; exact hn, vt, vl2, upd_self, Sl.keep g2 kR, Sl.keep g3 kR, g4⟩
  have hlt := (List.getElem?_eq_some_iff.1 ht).1
  obtain ⟨u, hu, hd⟩ := drop_at (l := ts) hlt
  rw [ht] at hu
  injection hu with hu
  subst hu
  have e : lineN ⟨t.K, saysN b t⟩ (wordsOf b (ts.drop (i + 1))) f = (f, ⟨wordsOf b (ts.drop i), true⟩) := by unfold lineN; rw [if_pos hB, hd]; rfl
  rw [e]
  refine ⟨_, ?_, but_low h0.1 h0.2 k, i, r, rfl, Nat.le_refl _, hf.move k⟩
  refine Ev.enter (fun n => f20_eq rfl n _ _ _) ?_
  by_cases h6 : t.K = 6
  · have p4 : ldC (ptr x o) H = some (.int .i64 6, H) := by rw [p4, h6]; rfl
    have hS : f.S ≠ [] := by rw [h6] at hB; simpa [badN] using hB
    simp only [f20, ruA, ruB, ruC, ruE, ruD, lenStr, Int.reduceBEq, Int.reduceBNe, Nat.add_zero, p1, p2, p3, p4, lS, e_empty', decide_eq_false hS, st]
    exact Ev.pure _
  · have h6' : t.K < 5 ∨ t.K = 13 := by
      simp only [badN, Bool.or_eq_true, Bool.and_eq_true, decide_eq_true_eq] at hB
      omega
    have n : ∀ k : Nat, (5 ≤ k ∧ k ≤ 12) → ((t.K : Int) == (k : Int)) = false := fun k hk => (k_eq' (a := t.K) (k := k)).trans (decide_eq_false (by omega))
    have n5 := n 5 (by omega)
    have n6 := n 6 (by omega)
    have n7 := n 7 (by omega)
    have n8 := n 8 (by omega)
    have n9 := n 9 (by omega)
    have n10 := n 10 (by omega)
    have n11 := n 11 (by omega)
    have n12 := n 12 (by omega)
    simp only [Int.cast_ofNat_Int] at n5 n6 n7 n8 n9 n10 n11 n12
    simp only [f20, f20_J3, f20_J2, ruA, ruB, ruC, ruE, ruD, lenStr, Int.reduceBEq, Int.reduceBNe, Nat.add_zero, p1, p2, p3, p4, n5, n6, n7, n8, n9, n10, n11, n12, st]
    exact Ev.pure _
theorem rline_T (hk : t.K = 7 ∨ t.K = 8) : ∃ H', Cl 20 [ptr p 0, ptr q 0] H (.tuple #[]) H' ∧ Keep (all H0) H H' ∧ LrP H0 R p q b ts i (lineN ⟨t.K, saysN b t⟩ (wordsOf b (ts.drop (i + 1))) f) H' := by
  obtain ⟨vl, x, o, p1, p2, p3, p4⟩ := head_ld hR ht
  obtain ⟨va, vb, vc, vd, h4⟩ := hf
  have h0 := h4.hn
  have ld : ldC (ptr q 2) H = some (vb, H) := Box.ld (R := fun _ => True) ⟨trivial, _, _, h4.g⟩ rfl
  obtain ⟨H2, c2, k2, i2, r2, l2, s2⟩ := rterm_ok hR hT hb hl ht hk
  have y2 := rd_eta l2
  have hck : sameBlk H H2 (blkOf (ptr q 2)) = true := Box.blk (R := But H p) ⟨⟨h4.qn, h4.pq.symm⟩, _, _, h4.g⟩ k2
  have hbad : badN t.K f = false := by rcases hk with h | h <;> rw [h] <;> rfl
  rw [line_good hbad]
  have e1 : bodyN t.K ⟨wordsOf b (ts.drop (i + 1)), false⟩ f = ({ f with T := f.T ++ [(termN (decide (t.K = 8)) ⟨wordsOf b (ts.drop (i + 1)), false⟩).1] }, (termN (decide (t.K = 8)) ⟨wordsOf b (ts.drop (i + 1)), false⟩).2) := by
    rcases hk with h | h <;> rw [h] <;> rfl
  rw [e1]
  generalize termN (decide (t.K = 8)) ⟨wordsOf b (ts.drop (i + 1)), false⟩ = Y at *
  obtain ⟨v', H3, a1, a2, a3, a4⟩ := (h4.move k2).addT (x := Y.1) (cx := [.string (bs Y.1.N), .string (bs Y.1.P), .bool Y.1.S]) (rep_tm.2 rfl) (by unfold flen at hfl; omega)
  have r3 := rf_low r2 hRb a4
  obtain ⟨H', j1, j2, j3⟩ := rline_J1 hRb r3 hT hb hl ⟨_, _, _, _, a3⟩
  rw [y2] at j3
  refine ⟨H', ?_, ((but_low h4.p0 h0 k2).trans (a4.mono fun x hx => .inl hx)).trans j2, j3.of (by omega)⟩
  refine Ev.enter (fun n => f20_eq rfl n _ _ _) ?_
  have tail : ∀ w, Ev (fun n m => f20_J3 real (AC n) n (ptr p 0) (ptr q 0) w (.bool true) H) (.tuple #[], H') := by
    intro w
    simp only [f20_J3, ruA, ruB, ruC, ruE, ruD, lenStr, Int.reduceBEq, Int.reduceBNe, ld]
    refine Ev.callC c2 ?_
    simp only [ruA, ruB, ruC, ruE, ruD, lenStr, Int.reduceBEq, Int.reduceBNe, hck, Bool.and_true, bldT, a1, a2]
    exact j1
  rcases hk with hk | hk
  · have p4 : ldC (ptr x o) H = some (.int .i64 7, H) := by rw [p4, hk]; rfl
    simp only [f20, ruA, ruB, ruC, ruE, ruD, lenStr, Int.reduceBEq, Int.reduceBNe, Nat.add_zero, p1, p2, p3, p4]
    exact tail _
  · have p4 : ldC (ptr x o) H = some (.int .i64 8, H) := by rw [p4, hk]; rfl
    simp only [f20, ruA, ruB, ruC, ruE, ruD, lenStr, Int.reduceBEq, Int.reduceBNe, Nat.add_zero, p1, p2, p3, p4]
    exact tail _
theorem rline_R (hk : t.K = 12) : ∃ H', Cl 20 [ptr p 0, ptr q 0] H (.tuple #[]) H' ∧ Keep (all H0) H H' ∧ LrP H0 R p q b ts i (lineN ⟨t.K, saysN b t⟩ (wordsOf b (ts.drop (i + 1))) f) H' := by
  obtain ⟨vl, x, o, p1, p2, p3, p4⟩ := head_ld hR ht
  have p4 : ldC (ptr x o) H = some (.int .i64 12, H) := by rw [p4, hk]; rfl
  obtain ⟨va, vb, vc, vd, h4⟩ := hf
  have h0 := h4.hn
  have ld : ldC (ptr q 4) H = some (vd, H) := Box.ld (R := fun _ => True) ⟨trivial, _, _, h4.g⟩ rfl
  have hi := head_is (b := b) ht (by omega)
  rw [hk] at hi
  obtain ⟨w, H2, X, c2, k2, ⟨i2, r2, l2, s2⟩, w2⟩ := rrule_ok hR hT hb hl hi
  simp only at r2 l2 w2
  have y2 := rd_eta l2
  have hck : sameBlk H H2 (blkOf (ptr q 4)) = true := Box.blk (R := But H p) ⟨⟨h4.qn, h4.pq.symm⟩, _, _, h4.g⟩ k2
  rw [line_good (by rw [hk]; rfl), hk]
  have e1 : bodyN 12 ⟨wordsOf b (ts.drop (i + 1)), false⟩ f = ({ f with R := f.R ++ [(ruleN ⟨wordsOf b (ts.drop (i + 1)), false⟩).1] }, (ruleN ⟨wordsOf b (ts.drop (i + 1)), false⟩).2) := rfl
  rw [e1]
  generalize ruleN ⟨wordsOf b (ts.drop (i + 1)), false⟩ = Y at *
  have hlt : ∀ x, Lf H0.n p q va vb vc vd x → x < H.n := fun x hx => by
    rcases hx with hx | rfl | rfl | hx | hx | hx | hx
    · exact Nat.lt_of_lt_of_le hx h4.hn
    · exact h4.pn
    · exact h4.qn
    · exact (h4.ha.at hx).2
    · exact (h4.hb.at hx).2
    · exact (h4.hc.at hx).2
    · exact (h4.hd.at hx).2
  have hrep : Rp.rep (Stay H2 (Lf H0.n p q va vb vc vd)) H2 Y.1 [.string (bs Y.1.N), w] :=
    rep_rl.2 ⟨w, rfl, w2.sli fun x h1 h2 => ⟨h2, fun e => by have := hlt x e; omega⟩⟩
  obtain ⟨v', H3, a1, a2, a3, a4⟩ := (h4.move k2).addR hrep (by unfold flen at hfl; omega)
  have r3 := rf_low r2 hRb a4
  obtain ⟨H', j1, j2, j3⟩ := rline_J1 hRb r3 hT hb hl ⟨_, _, _, _, a3⟩
  rw [y2] at j3
  refine ⟨H', ?_, ((but_low h4.p0 h0 k2).trans (a4.mono fun x hx => .inl hx)).trans j2, j3.of (by omega)⟩
  refine Ev.enter (fun n => f20_eq rfl n _ _ _) ?_
  simp only [f20, f20_J3, f20_J2, ruA, ruB, ruC, ruE, ruD, lenStr, Int.reduceBEq, Int.reduceBNe, Nat.add_zero, p1, p2, p3, p4, ld]
  refine Ev.callC c2 ?_
  obtain ⟨o1, o2⟩ := w2.oneC
  simp only [ruA, ruB, ruC, ruE, ruD, lenStr, Int.reduceBEq, Int.reduceBNe, hck, Bool.and_true, bldR o1 o2, a1, a2]
  exact j1
theorem rline_P (hk : t.K = 9 ∨ t.K = 10 ∨ t.K = 11) : ∃ H', Cl 20 [ptr p 0, ptr q 0] H (.tuple #[]) H' ∧ Keep (all H0) H H' ∧ LrP H0 R p q b ts i (lineN ⟨t.K, saysN b t⟩ (wordsOf b (ts.drop (i + 1))) f) H' := by
  obtain ⟨vl, x, o, p1, p2, p3, p4⟩ := head_ld hR ht
  obtain ⟨va, vb, vc, vd, h4⟩ := hf
  have h0 := h4.hn
  have ld : ldC (ptr q 3) H = some (vc, H) := Box.ld (R := fun _ => True) ⟨trivial, _, _, h4.g⟩ rfl
  obtain ⟨w, H2, c2, ⟨k2, i2, r2, l2, s2⟩, w2⟩ := rprec_ok hR hT hb hl ht hk
  have y2 := rd_eta l2
  have hck : sameBlk H H2 (blkOf (ptr q 3)) = true := Box.blk (R := But H p) ⟨⟨h4.qn, h4.pq.symm⟩, _, _, h4.g⟩ k2
  have hbad : badN t.K f = false := by rcases hk with h | h | h <;> rw [h] <;> rfl
  rw [line_good hbad]
  have e1 : bodyN t.K ⟨wordsOf b (ts.drop (i + 1)), false⟩ f = ({ f with P := f.P ++ [(precN t.K ⟨wordsOf b (ts.drop (i + 1)), false⟩).1] }, (precN t.K ⟨wordsOf b (ts.drop (i + 1)), false⟩).2) := by
    rcases hk with h | h | h <;> rw [h] <;> rfl
  rw [e1]
  have hK : (precN t.K ⟨wordsOf b (ts.drop (i + 1)), false⟩).1.K = (t.K : Int) - 8 := rfl
  generalize precN t.K ⟨wordsOf b (ts.drop (i + 1)), false⟩ = Y at *
  have hlt : ∀ x, Lf H0.n p q va vb vc vd x → x < H.n := fun x hx => by
    rcases hx with hx | rfl | rfl | hx | hx | hx | hx
    · exact Nat.lt_of_lt_of_le hx h4.hn
    · exact h4.pn
    · exact h4.qn
    · exact (h4.ha.at hx).2
    · exact (h4.hb.at hx).2
    · exact (h4.hc.at hx).2
    · exact (h4.hd.at hx).2
  have hrep : Rp.rep (Stay H2 (Lf H0.n p q va vb vc vd)) H2 Y.1 [.int .i64 Y.1.K, w] :=
    rep_pr.2 ⟨w, rfl, by omega, w2.read fun x h1 h2 => ⟨h2, fun e => h1 (hlt x e)⟩⟩
  obtain ⟨v', H3, a1, a2, a3, a4⟩ := (h4.move k2).addP hrep (by unfold flen at hfl; omega)
  have r3 := rf_low r2 hRb a4
  obtain ⟨H', j1, j2, j3⟩ := rline_J1 hRb r3 hT hb hl ⟨_, _, _, _, a3⟩
  rw [y2] at j3
  refine ⟨H', ?_, ((but_low h4.p0 h0 k2).trans (a4.mono fun x hx => .inl hx)).trans j2, j3.of (by omega)⟩
  refine Ev.enter (fun n => f20_eq rfl n _ _ _) ?_
  obtain ⟨o1, o2⟩ := w2.oneC
  have tail : ∀ w, Ev (fun n m => f20_J2 real (AC n) n (ptr p 0) (ptr q 0) w (.bool true) H) (.tuple #[], H') := by
    intro w
    simp only [f20_J2, ruA, ruB, ruC, ruE, ruD, lenStr, Int.reduceBEq, Int.reduceBNe, ld]
    refine Ev.callC c2 ?_
    simp only [ruA, ruB, ruC, ruE, ruD, lenStr, Int.reduceBEq, Int.reduceBNe, hck, Bool.and_true, bldP o1 o2, a1, a2]
    exact j1
  rcases hk with hk | hk | hk
  · have p4 : ldC (ptr x o) H = some (.int .i64 9, H) := by rw [p4, hk]; rfl
    simp only [f20, f20_J3, ruA, ruB, ruC, ruE, ruD, lenStr, Int.reduceBEq, Int.reduceBNe, Nat.add_zero, p1, p2, p3, p4]
    exact tail _
  · have p4 : ldC (ptr x o) H = some (.int .i64 10, H) := by rw [p4, hk]; rfl
    simp only [f20, f20_J3, ruA, ruB, ruC, ruE, ruD, lenStr, Int.reduceBEq, Int.reduceBNe, Nat.add_zero, p1, p2, p3, p4]
    exact tail _
  · have p4 : ldC (ptr x o) H = some (.int .i64 11, H) := by rw [p4, hk]; rfl
    simp only [f20, f20_J3, ruA, ruB, ruC, ruE, ruD, lenStr, Int.reduceBEq, Int.reduceBNe, Nat.add_zero, p1, p2, p3, p4]
    exact tail _
theorem rline_ok : ∃ H', Cl 20 [ptr p 0, ptr q 0] H (.tuple #[]) H' ∧ Keep (all H0) H H' ∧ LrP H0 R p q b ts i (lineN ⟨t.K, saysN b t⟩ (wordsOf b (ts.drop (i + 1))) f) H' := by
  have h13 := (hT t (List.mem_of_getElem? ht)).1
  cases hB : badN t.K f with
  | true => exact rline_bad hRb hR ht hT hb hl hf hfl h13 hB
  | false =>
    simp only [badN, Bool.or_eq_false_iff, decide_eq_false_iff_not, Bool.and_eq_false_iff] at hB
    obtain ⟨⟨h1, h2⟩, h3⟩ := hB
    by_cases h5 : t.K = 5
    · exact rline_I hRb hR ht hT hb hl hf hfl h5
    by_cases h6 : t.K = 6
    · exact rline_S hRb hR ht hT hb hl hf hfl h6 (by
        rcases h3 with h3 | h3
        · exact absurd h6 h3
        · simpa using h3)
    by_cases h7 : t.K = 7 ∨ t.K = 8
    · exact rline_T hRb hR ht hT hb hl hf hfl h7
    by_cases h12 : t.K = 12
    · exact rline_R hRb hR ht hT hb hl hf hfl h12
    · exact rline_P hRb hR ht hT hb hl hf hfl (by omega)
end
end Go.Eng

/- The reference's Parse. -/
set_option linter.unusedVariables false
set_option linter.unusedSimpArgs false
set_option linter.unusedSectionVars false
set_option maxRecDepth 100000
namespace Go.Eng
open Go Go.Proofs

theorem Tks.fromAt {R : Nat → Prop} {H : Heap} {ts : List Tok} {v : Value} (h : Tks R H ts v) {i : Nat} {t : Tok} (ht : ts[i]? = some t) : ∃ b o, iAddrS 3 v (.int .i64 (i : Int)) = some (ptr b o) ∧ R b ∧ ldC (ptr b (o + 1)) H = some (.int .i64 (t.F : Int), H) := by
  have hi := (List.getElem?_eq_some_iff.1 ht).1
  obtain ⟨b, o, h1, h2, h3, h4⟩ := Sl.atN h hi
  have hd : (TOKS ts).drop (i * 3) = TOK t ++ TOKS (ts.drop (i + 1)) := by
    rw [TOKS_drop, List.drop_eq_getElem_cons hi]
    have : ts[i] = t := by rw [List.getElem?_eq_getElem hi] at ht; simpa using ht
    rw [this]; rfl
  refine ⟨b, o, h1, h2, ?_⟩
  refine h3 1 _ (by omega) ?_
  have : ((TOKS ts).drop (i * 3))[1]? = some (.int .i64 (t.F : Int)) := by rw [hd]; rfl
  rwa [List.getElem?_drop] at this
section
variable {R : Nat → Prop} {H0 : Heap} {p q x : Nat} {b : List UInt8} {v w : Value} {ts : List Tok}
theorem rparse_end {H : Heap} {i : Nat} {bad : Bool} {f : Fl} (hv : lenS v = some (.int .i64 (b.length : Int))) (hw : Tks R H0 ts w) (hx : H0.get x = some ⟨NOFILE, 1, true⟩) (xn : x < H0.n) (hRx : ¬ R x) (hRb : Rb R H0) (hK : Keep (all H0) H0 H) (hR : RfB R H p b ts i bad) (hf : FlB H0 H p q f) (h : ts.drop i = [] ∨ bad = true) :
    ∃ cs H', Ev (fun n m => f9_L0 real (AC n) n m v (ptr x 0) w (ptr p 0) (ptr q 0) H) (.tuple #[.agg cs.toArray, .int .i64 (saidN ts b.length (f, ⟨wordsOf b (ts.drop i), bad⟩)).2.1, .int .i64 (saidN ts b.length (f, ⟨wordsOf b (ts.drop i), bad⟩)).2.2], H') ∧ Ans H0 H' x (saidN ts b.length (f, ⟨wordsOf b (ts.drop i), bad⟩)).1 cs := by
  obtain ⟨hl, hn, vt, vl, g1, g2, g3, hle⟩ := id hR
  obtain ⟨va, vb, vc, vd, h4⟩ := hf
  have li : ldC (ptr p 2) H = some (.int .i64 (i : Int), H) := Box.ld (R := fun _ => True) ⟨trivial, _, _, g1⟩ rfl
  have lb : ldC (ptr p 3) H = some (.bool bad, H) := Box.ld (R := fun _ => True) ⟨trivial, _, _, g1⟩ rfl
  have e0 : lenS w = some (.int .i64 (ts.length : Int)) := Sl.lenS hw
  have gx : H.get x = some ⟨NOFILE, 1, true⟩ := by rw [hK.2 x xn]; exact hx
  have s1 : stV 5 (ptr x 0) (.agg NOFILE.toArray) H = some (undef, H.upd x (some ⟨NOFILE, 1, true⟩)) := st5 gx rfl rfl rfl
  have l1 : Eng.ldA 5 (ptr x 0) (H.upd x (some ⟨NOFILE, 1, true⟩)) = some (.agg NOFILE.toArray, H.upd x (some ⟨NOFILE, 1, true⟩)) := ld5 upd_self rfl
  have kx : ∀ {y : Option Blk}, Keep (But H0 x) H0 (H.upd x y) := fun {y} => (hK.mono fun z hz => hz.1).trans (upd_butQ.mono fun z hz => ⟨Nat.lt_of_lt_of_le hz.1 hK.1, hz.2⟩)
  have hpx : p ≠ x := by have := h4.p0; omega
  have pl := place_suf (n := b.length) (List.drop_suffix i ts)
  have ww : (wordsOf b (ts.drop i)).length = (ts.drop i).length := by simp [wordsOf]
  rcases Nat.lt_or_ge i ts.length with hlt | hge
  case inr =>
    have hd : ts.drop i = [] := List.drop_eq_nil_of_le hge
    have e1 : ((i : Int) < (ts.length : Int)) = False := eq_false (by omega)
    cases bad with
    | false =>
      refine ⟨[va, .string (bs f.S), vb, vc, vd], H.upd x (some ⟨[va, .string (bs f.S), vb, vc, vd], 1, true⟩), ?_, kx, ?_⟩
      · have ha := all_one (s := bs f.S) h4.ha.oneC.1 h4.hb.oneC.1 h4.hc.oneC.1 h4.hd.oneC.1
        have l0 : Eng.ldA 5 (ptr q 0) H = some (.agg [va, .string (bs f.S), vb, vc, vd].toArray, H) := ld5 h4.g rfl
        have s2 := st5 (ds := [va, .string (bs f.S), vb, vc, vd]) gx rfl rfl ha
        have l2 : Eng.ldA 5 (ptr x 0) (H.upd x (some ⟨[va, .string (bs f.S), vb, vc, vd], 1, true⟩)) = some (.agg [va, .string (bs f.S), vb, vc, vd].toArray, _) := ld5 upd_self rfl
        refine Ev.step (fun n m => f9_L0.eq_2 _ _ _ _ _ _ _ _ _ _) ?_
        simp only [ruA, ruB, ruC, ruE, ruD, lenStr, Int.reduceBEq, Int.reduceBNe, li, e0, e1, lb, l0, s2, l2, Option.map_some, resM3, one3]
        exact Ev.pure _
      · show Rp.rep _ _ f _
        have ku : Keep (fun z => H0.n ≤ z ∧ z < H.n) H (H.upd x (some ⟨[va, .string (bs f.S), vb, vc, vd], 1, true⟩)) := upd_butQ.mono fun z hz => ⟨hz.2, by have := hz.1; omega⟩
        exact Rp.mono (Rp.keep h4.rep ku) fun z hz => hz.2
    | true =>
      have es : saidN ts b.length (f, ⟨wordsOf b (ts.drop i), true⟩) = (Fl.none, (b.length : Int), 150) := by
        unfold saidN
        simp only [if_true, ww]
        rw [pl, hd]; rfl
      rw [es]
      refine ⟨NOFILE, H.upd x (some ⟨NOFILE, 1, true⟩), ?_, kx, rep_none⟩
      refine Ev.step (fun n m => f9_L0.eq_2 _ _ _ _ _ _ _ _ _ _) ?_
      simp only [ruA, ruB, ruC, ruE, ruD, lenStr, Int.reduceBEq, Int.reduceBNe, li, e0, e1, lb, bldF0, hv, s1, l1, Option.map_some, resM3, one3]
      exact Ev.pure _
  case inl =>
    obtain ⟨t, ht, hd⟩ := drop_at (l := ts) hlt
    obtain rfl : bad = true := by
      rcases h with h | h
      · rw [hd] at h; cases h
      · exact h
    have e1 : ((i : Int) < (ts.length : Int)) = True := eq_true (by omega)
    have es : saidN ts b.length (f, ⟨wordsOf b (ts.drop i), true⟩) = (Fl.none, (t.F : Int), 150) := by
      unfold saidN
      simp only [if_true, ww]
      rw [pl, hd]; rfl
    rw [es]
    obtain ⟨z, o, a1, a2, a3⟩ := Tks.fromAt (Sl.keep hw (hK.mono hRb)) ht
    have ck1 : sameBlk H (H.upd x (some ⟨NOFILE, 1, true⟩)) (blkOf (ptr z (o + 1))) = true := sameBlk_of fun c hc => by
      have : c = z := by simpa [blkOf] using hc.symm
      subst this; exact upd_ne fun e => hRx (by rw [← e]; exact a2)
    have ck2 : sameBlk H (H.upd x (some ⟨NOFILE, 1, true⟩)) (blkOf (ptr p 2)) = true := sameBlk_of fun c hc => by
      have : c = p := by simpa [blkOf] using hc.symm
      subst this; exact upd_ne hpx
    refine ⟨NOFILE, H.upd x (some ⟨NOFILE, 1, true⟩), ?_, kx, rep_none⟩
    refine Ev.step (fun n m => f9_L0.eq_2 _ _ _ _ _ _ _ _ _ _) ?_
    simp only [ruA, ruB, ruC, ruE, ruD, lenStr, Int.reduceBEq, Int.reduceBNe, li, e0, e1, lb, bldF0, a1, a3, s1, l1, ck1, ck2, Bool.and_true, Option.map_some, resM3, one3]
    exact Ev.pure _
theorem rparse_loop (hRb : Rb R H0) (hb : b.length ≤ 8192) (hl : ts.length ≤ 8192) (hv : lenS v = some (.int .i64 (b.length : Int))) (hw : Tks R H0 ts w) (hx : H0.get x = some ⟨NOFILE, 1, true⟩) (xn : x < H0.n) (hRx : ¬ R x) (hT : ∀ t ∈ ts, TG b t) : ∀ (n i : Nat) (bad : Bool) (H : Heap) (f : Fl), ts.length - i ≤ n → flen f + (ts.length - i) ≤ 8192 →
    Keep (all H0) H0 H → RfB R H p b ts i bad → FlB H0 H p q f →
    ∃ cs H', Ev (fun n m => f9_L0 real (AC n) n m v (ptr x 0) w (ptr p 0) (ptr q 0) H) (.tuple #[.agg cs.toArray, .int .i64 (saidN ts b.length (linesN n ⟨wordsOf b (ts.drop i), bad⟩ f)).2.1, .int .i64 (saidN ts b.length (linesN n ⟨wordsOf b (ts.drop i), bad⟩ f)).2.2], H') ∧ Ans H0 H' x (saidN ts b.length (linesN n ⟨wordsOf b (ts.drop i), bad⟩ f)).1 cs := by
  intro n
  induction n with
  | zero =>
    intro i bad H f hn hfl hK hR hf
    exact rparse_end hv hw hx xn hRx hRb hK hR hf (.inl (List.drop_eq_nil_of_le (by omega)))
  | succ n ih =>
    intro i bad H f hn hfl hK hR hf
    rcases Nat.lt_or_ge i ts.length with hlt | hge
    case inr =>
      have := rparse_end hv hw hx xn hRx hRb hK hR hf (.inl (List.drop_eq_nil_of_le (by omega)))
      rw [← lines_nil (n := n + 1) (r := ⟨wordsOf b (ts.drop i), bad⟩) (f := f) (by rw [List.drop_eq_nil_of_le hge]; rfl)] at this
      exact this
    case inl =>
      cases bad with
      | true =>
        have := rparse_end hv hw hx xn hRx hRb hK hR hf (.inr rfl)
        rw [← lines_bad (n := n + 1) (r := ⟨wordsOf b (ts.drop i), true⟩) (f := f) rfl] at this
        exact this
      | false =>
        obtain ⟨t, ht, hd⟩ := drop_at (l := ts) hlt
        obtain ⟨H1, c1, k1, i1, r1, l1, s1, f1⟩ := rline_ok hRb hR ht hT hb hl hf (by omega)
        have el : linesN (n + 1) ⟨wordsOf b (ts.drop i), false⟩ f = linesN n (lineN ⟨t.K, saysN b t⟩ (wordsOf b (ts.drop (i + 1))) f).2 (lineN ⟨t.K, saysN b t⟩ (wordsOf b (ts.drop (i + 1))) f).1 := by rw [hd]; rfl
        have fl := flen_line ⟨t.K, saysN b t⟩ (wordsOf b (ts.drop (i + 1))) f
        have ll := line_len ⟨t.K, saysN b t⟩ (wordsOf b (ts.drop (i + 1))) f
        have ww : ∀ i, (wordsOf b (ts.drop i)).length = ts.length - i := fun i => by simp [wordsOf]
        generalize lineN ⟨t.K, saysN b t⟩ (wordsOf b (ts.drop (i + 1))) f = X at *
        obtain ⟨f', l', bad'⟩ := X
        simp only at r1 l1 f1 fl ll
        subst l1
        rw [ww, ww] at fl
        have K1 : Keep (all H0) H0 H1 := hK.trans k1
        have hi1 : i1 ≤ ts.length := by obtain ⟨_, _, _, _, _, _, _, h⟩ := r1; exact h
        have fin : ∃ cs H', Ev (fun n m => f9_L0 real (AC n) n m v (ptr x 0) w (ptr p 0) (ptr q 0) H1) (.tuple #[.agg cs.toArray, .int .i64 (saidN ts b.length (linesN n ⟨wordsOf b (ts.drop i1), bad'⟩ f')).2.1, .int .i64 (saidN ts b.length (linesN n ⟨wordsOf b (ts.drop i1), bad'⟩ f')).2.2], H') ∧ Ans H0 H' x (saidN ts b.length (linesN n ⟨wordsOf b (ts.drop i1), bad'⟩ f')).1 cs := by
          cases bad' with
          | true =>
            have := rparse_end hv hw hx xn hRx hRb K1 r1 f1 (.inr rfl)
            rw [← lines_bad (n := n) (r := ⟨wordsOf b (ts.drop i1), true⟩) (f := f') rfl] at this
            exact this
          | false =>
            rcases ll with ll | ll
            · rw [ww, ww] at ll
              exact ih i1 false H1 f' (by omega) (by omega) K1 r1 f1
            · cases ll.1
        obtain ⟨cs, H', q1, q2⟩ := fin
        rw [el]
        refine ⟨cs, H', ?_, q2⟩
        obtain ⟨hl', hnn, vt, vl, g1, g2, g3, _⟩ := id hR
        have li : ldC (ptr p 2) H = some (.int .i64 (i : Int), H) := Box.ld (R := fun _ => True) ⟨trivial, _, _, g1⟩ rfl
        have lb : ldC (ptr p 3) H = some (.bool false, H) := Box.ld (R := fun _ => True) ⟨trivial, _, _, g1⟩ rfl
        have e0 : lenS w = some (.int .i64 (ts.length : Int)) := Sl.lenS hw
        have e1 : ((i : Int) < (ts.length : Int)) = True := eq_true (by omega)
        refine Ev.step (fun n m => f9_L0.eq_2 _ _ _ _ _ _ _ _ _ _) ?_
        simp only [ruA, ruB, ruC, ruE, ruD, lenStr, Int.reduceBEq, Int.reduceBNe, li, e0, e1, lb]
        refine Ev.callC c1 ?_
        exact q1
end
theorem bldRf {H : Heap} {v w : Value} (v1 : Eng.oneC v = true) (v2 : v.cells = #[v]) (w1 : Eng.oneC w = true) (w2 : w.cells = #[w]) : bld [.slice none 0 0, .slice none 0 0, .int .i64 0, .bool false] [(0, 1, v), (1, 1, w)] H = some (.agg #[v, w, .int .i64 0, .bool false], H) := by
  simp [bld, fillC, splice, v2, w2]
theorem newFA {H : Heap} : newV (Value.cells (.agg NOFILE.toArray)).toList H = some (ptr H.n 0, H.push ⟨NOFILE, 1, true⟩) := newA (cs := NOFILE) rfl
/-- What the bytes of a file say. -/
theorem rparse_ok {H : Heap} {b : List UInt8} {v : Value} (hs : SlU (all H) H b v) (hb : b.length < 9223372036854775807) :
    ∃ cs H', Cl 9 [v] H (.tuple #[.agg cs.toArray, .int .i64 (gparse b).2.1, .int .i64 (gparse b).2.2]) H' ∧ Keep (all H) H H' ∧ Rp.rep (all H') H' (gparse b).1 cs := by
  have kp : Keep (all H) H (H.push ⟨NOFILE, 1, true⟩) := push_keep
  have g1 : (H.push ⟨NOFILE, 1, true⟩).get H.n = some ⟨NOFILE, 1, true⟩ := push_self
  have n1 : (H.push ⟨NOFILE, 1, true⟩).n = H.n + 1 := push_n
  have nf := newF (H := H)
  generalize hH1 : H.push ⟨NOFILE, 1, true⟩ = H1 at *
  obtain ⟨w, H2, c2, a2, k2⟩ := rcut_ok (hs.up kp) hb
  have g2 : H2.get H.n = some ⟨NOFILE, 1, true⟩ := by rw [k2.2 _ (by show H.n < H1.n; omega)]; exact g1
  have n2 : H1.n ≤ H2.n := k2.1
  have K2 : Keep (all H) H H2 := kp.tr k2
  have out : ∀ {at_ e : Int}, (e == 0) = false → (cutR b).2.1 = at_ → (cutR b).2.2 = e → ∃ H', Cl 9 [v] H (.tuple #[.agg NOFILE.toArray, .int .i64 at_, .int .i64 e]) H' ∧ Keep (all H) H H' := by
    intro at_ e he ha hc
    rw [ha, hc] at c2
    have s1 : stV 5 (ptr H.n 0) (.agg NOFILE.toArray) H2 = some (undef, H2.upd H.n (some ⟨NOFILE, 1, true⟩)) := st5 g2 rfl rfl rfl
    have l1 : Eng.ldA 5 (ptr H.n 0) (H2.upd H.n (some ⟨NOFILE, 1, true⟩)) = some (.agg NOFILE.toArray, H2.upd H.n (some ⟨NOFILE, 1, true⟩)) := ld5 upd_self rfl
    refine ⟨H2.upd H.n (some ⟨NOFILE, 1, true⟩), ?_, K2.trans (upd_butQ.mono fun z hz => ⟨by have : z < H.n := hz; omega, by have : z < H.n := hz; omega⟩)⟩
    refine Ev.enter (fun n => f9_eq rfl n _ _) ?_
    simp only [f9, ruA, ruB, ruC, ruE, ruD, lenStr, Int.reduceBEq, Int.reduceBNe, nf]
    refine Ev.callC c2 ?_
    have he' : (e != 0) = true := by rw [bne, he]; rfl
    simp only [ruA, ruB, ruC, ruE, ruD, lenStr, Int.reduceBEq, Int.reduceBNe, he', bldF0, s1, l1, Option.map_some, resM3, one3]
    exact Ev.pure _
  by_cases h8 : 8192 < b.length
  · have e : gparse b = (Fl.none, 0, 5) := by unfold gparse; rw [if_pos h8]
    have e2 : cutR b = ([], 0, 5) := by unfold cutR; rw [if_pos h8]
    obtain ⟨H', q1, q2⟩ := out (at_ := 0) (e := 5) rfl (by rw [e2]) (by rw [e2])
    rw [e]
    exact ⟨NOFILE, H', q1, q2, rep_none⟩
  · have hb8 : b.length ≤ 8192 := by omega
    have e2 : cutR b = cutG [] (cutN 0 b) := by unfold cutR; rw [if_neg h8]
    cases hc : (cutN 0 b).2 with
    | some i =>
      have e : gparse b = (Fl.none, (i : Int), 140) := by unfold gparse; rw [if_neg h8, hc]
      obtain ⟨H', q1, q2⟩ := out (at_ := (i : Int)) (e := 140) rfl (by rw [e2]; simp [cutG, hc]) (by rw [e2]; simp [cutG, hc])
      rw [e]
      exact ⟨NOFILE, H', q1, q2, rep_none⟩
    | none =>
      have e3 : cutR b = ((cutN 0 b).1, 0, 0) := by rw [e2]; simp [cutG, hc]
      rw [gparse_ok hb8 hc]
      rw [e3] at c2 a2
      simp only at c2 a2
      have hlen := cutN_len b 0
      obtain ⟨v1, v2⟩ := Sl.oneC hs
      obtain ⟨w1, w2⟩ := a2.oneC
      have hbd := bldRf (H := H2) v1 v2 w1 w2
      have nr : newV (Value.cells (.agg #[v, w, .int .i64 0, .bool false])).toList H2 = some (ptr H2.n 0, H2.push ⟨[v, w, .int .i64 0, .bool false], 1, true⟩) := newA (cs := [v, w, .int .i64 0, .bool false]) (by simp [v1, w1]; exact ⟨rfl, rfl⟩)
      have kq : Keep (all H2) H2 (H2.push ⟨[v, w, .int .i64 0, .bool false], 1, true⟩) := push_keep
      have gq : (H2.push ⟨[v, w, .int .i64 0, .bool false], 1, true⟩).get H2.n = some ⟨[v, w, .int .i64 0, .bool false], 1, true⟩ := push_self
      have nq : (H2.push ⟨[v, w, .int .i64 0, .bool false], 1, true⟩).n = H2.n + 1 := push_n
      generalize hH3 : H2.push ⟨[v, w, .int .i64 0, .bool false], 1, true⟩ = H3 at *
      have nf2 := newFA (H := H3)
      have kr : Keep (all H3) H3 (H3.push ⟨NOFILE, 1, true⟩) := push_keep
      have gr : (H3.push ⟨NOFILE, 1, true⟩).get H3.n = some ⟨NOFILE, 1, true⟩ := push_self
      have nr' : (H3.push ⟨NOFILE, 1, true⟩).n = H3.n + 1 := push_n
      generalize hH4 : H3.push ⟨NOFILE, 1, true⟩ = H4 at *
      have K4 : Keep (all H2) H2 H4 := kq.tr kr
      have hw2 : Tks (But H2 H.n) H2 (cutN 0 b).1 w := a2.read fun z h1 h2 => ⟨h2, fun e => h1 (by show z < H1.n; omega)⟩
      have hR4 : RfB (But H2 H.n) H4 H2.n b (cutN 0 b).1 0 false := by
        refine ⟨⟨fun h => by have := h.1; omega, fun z hz => by have := hz.1; omega⟩, by omega, v, w, by rw [kr.2 _ (by show H2.n < H3.n; omega)]; exact gq, ?_, ?_, Nat.zero_le _⟩
        · exact Sl.mono (Sl.keep hs (K2.trans (K4.mono fun z hz => by have : z < H.n := hz; show z < H2.n; omega))) fun z hz => by
            have : z < H.n := hz
            exact ⟨by omega, by omega⟩
        · exact Sl.keep hw2 (K4.mono fun z hz => hz.1)
      obtain ⟨cs, H', q1, q2, q3⟩ := rparse_loop (R := But H2 H.n) (x := H.n) (q := H3.n) (fun z hz => hz.1) hb8 (by omega) (SlU.len (Sl.keep (hs.up K2) K4)) hw2 g2 (by omega) (fun h => h.2 rfl) tg_cut (cutN 0 b).1.length 0 false H4 Fl.none (Nat.le_refl _) (by simp [flen, Fl.none]; omega) K4 hR4
        ⟨nilS, nilS, nilS, nilS, Four.new gr (by omega) (by omega) (Nat.le_refl _) (by omega) (by omega)⟩
      have er : linesN (cutN 0 b).1.length ⟨wordsOf b ((cutN 0 b).1.drop 0), false⟩ Fl.none = readN (wordsOf b (cutN 0 b).1) := by unfold readN; simp [wordsOf]
      rw [er] at q1 q3
      refine ⟨cs, H', ?_, K2.trans (q2.mono fun z hz => ⟨Nat.lt_of_lt_of_le hz K2.1, by have : z < H.n := hz; omega⟩), q3⟩
      refine Ev.enter (fun n => f9_eq rfl n _ _) ?_
      simp only [f9, ruA, ruB, ruC, ruE, ruD, lenStr, Int.reduceBEq, Int.reduceBNe, nf]
      refine Ev.callC c2 ?_
      have e00 : ((0 : Int) != 0) = false := rfl
      simp only [ruA, ruB, ruC, ruE, ruD, lenStr, Int.reduceBEq, Int.reduceBNe, e00, hbd, nr, bldF0, nf2]
      exact q1.loop
end Go.Eng
