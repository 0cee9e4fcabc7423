import Derived.Test.YtmfbebfpeimflaaDoorGQ
/- The reference's reader. -/
set_option linter.unusedVariables false
set_option linter.unusedSimpArgs false
set_option maxRecDepth 100000
namespace Go.Eng
open Go Go.Proofs

/-- The reference's reader: all words stay, the place goes on. -/
def RfB (R : Nat → Prop) (H : Heap) (p : Nat) (b : List UInt8) (all_ : List Tok) (i : Nat) (bad : Bool) : Prop :=
  (¬ R p ∧ Rb R H) ∧ p < H.n ∧ ∃ vt vl, H.get p = some ⟨[vt, vl, .int .i64 (i : Int), .bool bad], 1, true⟩ ∧ SlU R H b vt ∧ Tks R H all_ vl ∧ i ≤ all_.length
theorem RfB.move {R : Nat → Prop} {H H' : Heap} {p : Nat} {b : List UInt8} {ts : List Tok} {i : Nat} {bad : Bool} (h : RfB R H p b ts i bad) (hk : Keep R H H') (hp : H'.get p = H.get p) : RfB R H' p b ts i bad := by
  obtain ⟨h0, hn, vt, vl, h1, h2, h3, h4⟩ := h
  exact ⟨⟨h0.1, h0.2.mono hk.1⟩, Nat.lt_of_lt_of_le hn hk.1, vt, vl, by rw [hp]; exact h1, Sl.keep h2 hk, Sl.keep h3 hk, h4⟩
section
variable {R : Nat → Prop} {H : Heap} {p : Nat} {b : List UInt8} {ts : List Tok} {i : Nat} {bad : Bool}
theorem is_ok (h : RfB R H p b ts i bad) (hT : ∀ t ∈ ts, TG b t) (hb : b.length ≤ 8192) (hl : ts.length ≤ 8192) (k : Nat) (g : List UInt8) :
    ∃ H', Cl 62 [ptr p 0, .int .i64 (k : Int), .string (bs g)] H (.bool (isN k g ⟨wordsOf b (ts.drop i), bad⟩)) H' ∧ Keep (all H) H H' := by
  obtain ⟨hl0, hn, vt, vl, g1, g2, g3, g4⟩ := id h
  have bx : ∀ {H' : Heap}, Keep (all H) H H' → ∀ {j : Nat} {v : Value}, [vt, vl, .int .i64 (i : Int), .bool bad][j]? = some v → ldC (ptr p j) H' = some (v, H') := fun hk => fun hv => Box.ld (R := all H) (Box.keep ⟨hn, _, _, g1⟩ hk) hv
  have lb : ldC (ptr p 3) H = some (.bool bad, H) := bx (Keep.refl _ _) rfl
  have li : ldC (ptr p 2) H = some (.int .i64 (i : Int), H) := bx (Keep.refl _ _) rfl
  have ll : ldC (ptr p 1) H = some (vl, H) := bx (Keep.refl _ _) rfl
  have e0 : lenS vl = some (.int .i64 (ts.length : Int)) := Sl.lenS g3
  cases bad with
  | true =>
    refine ⟨H, ?_, Keep.refl _ _⟩
    refine Ev.enter (fun n => f62_eq rfl n _ _ _ _) ?_
    simp only [f62, ruA, ruB, ruC, ruE, ruD, lenStr, Int.reduceBEq, Int.reduceBNe, lb, isN, Bool.not_true, Bool.false_and, Bool.or_true]
    exact Ev.pure _
  | false =>
    rcases Nat.lt_or_ge i ts.length with hlt | hge
    case inr =>
      have ed : ts.drop i = [] := List.drop_eq_nil_of_le hge
      have e1 : ((i : Int) ≥ (ts.length : Int)) = True := eq_true (by omega)
      refine ⟨H, ?_, Keep.refl _ _⟩
      rw [ed]
      refine Ev.enter (fun n => f62_eq rfl n _ _ _ _) ?_
      simp only [f62, ruA, ruB, ruC, ruE, ruD, lenStr, Int.reduceBEq, Int.reduceBNe, lb, li, ll, e0, e1, Bool.or_true, isN, wordsOf, List.map_nil, Bool.and_false]
      exact Ev.pure _
    case inl =>
      obtain ⟨t, ht, hd⟩ := drop_at (l := ts) (i := i) hlt
      obtain ⟨q, o, a1, _, a2, a3⟩ := g3.at ht
      have e1 : ((i : Int) ≥ (ts.length : Int)) = False := eq_false (by omega)
      have tg := hT t (List.mem_of_getElem? ht)
      have hk : Keep (all H) H (H.push ⟨TOK t, 1, true⟩) := push_keep
      have st : stV 3 (ptr H.n 0) (.agg #[.int .i64 (t.K : Int), .int .i64 (t.F : Int), .int .i64 (t.T : Int)]) (H.push ⟨[.int .i64 0, .int .i64 0, .int .i64 0], 1, true⟩) = some (undef, H.push ⟨TOK t, 1, true⟩) := stA_push (ds := TOK t) rfl rfl rfl
      have l0 : ldC (ptr H.n 0) (H.push ⟨TOK t, 1, true⟩) = some (.int .i64 (t.K : Int), H.push ⟨TOK t, 1, true⟩) := push_boxA.ld rfl
      have l1 : ldC (ptr H.n 1) (H.push ⟨TOK t, 1, true⟩) = some (.int .i64 (t.F : Int), H.push ⟨TOK t, 1, true⟩) := push_boxA.ld rfl
      have l2 : ldC (ptr H.n 2) (H.push ⟨TOK t, 1, true⟩) = some (.int .i64 (t.T : Int), H.push ⟨TOK t, 1, true⟩) := push_boxA.ld rfl
      have lt : ldC (ptr p 0) (H.push ⟨TOK t, 1, true⟩) = some (vt, H.push ⟨TOK t, 1, true⟩) := bx hk rfl
      have hs : SlU R (H.push ⟨TOK t, 1, true⟩) b vt := Sl.keep g2 (hk.mono hl0.2)
      obtain ⟨u, u1, u2⟩ := hs.part (k := .i64) (k' := .i64) (i := t.F) (j := t.T) (by have := tg.2.1; omega) tg.2.2.1
      have tsr := toStr_U u2
      have e4 : ((k : Int) != 4) = !decide (k = 4) := k_eq (k := 4)
      rw [hd]
      refine ⟨H.push ⟨TOK t, 1, true⟩, ?_, hk⟩
      refine Ev.enter (fun n => f62_eq rfl n _ _ _ _) ?_
      by_cases hkk : t.K = k
      · have ek : ((t.K : Int) == (k : Int)) = true := by rw [k_eq', decide_eq_true hkk]
        by_cases h4 : k = 4
        · have es : saysN b t = (b.take t.T).drop t.F := by unfold saysN; rw [if_neg (by omega)]
          have ei : isN k g ⟨wordsOf b (t :: ts.drop (i + 1)), false⟩ = decide ((b.take t.T).drop t.F = g) := by
            simp [isN, wordsOf, hkk, h4, es]
          rw [ei]
          simp only [f62, ruA, ruB, ruC, ruE, ruD, lenStr, Int.reduceBEq, Int.reduceBNe, lb, li, ll, e0, e1, a1, a3, new3, st, l0, ek, e4, decide_eq_true h4, lt, l1, l2, u1, tsr, bs_eql (t := 9), Bool.or_true, Bool.not_true]
          exact Ev.pure _
        · have ei : isN k g ⟨wordsOf b (t :: ts.drop (i + 1)), false⟩ = true := by
            simp [isN, wordsOf, hkk, h4]
          rw [ei]
          simp only [f62, ruA, ruB, ruC, ruE, ruD, lenStr, Int.reduceBEq, Int.reduceBNe, lb, li, ll, e0, e1, a1, a3, new3, st, l0, ek, e4, decide_eq_false h4, Bool.or_true, Bool.not_false]
          exact Ev.pure _
      · have ek : ((t.K : Int) == (k : Int)) = false := by rw [k_eq', decide_eq_false hkk]
        have ei : isN k g ⟨wordsOf b (t :: ts.drop (i + 1)), false⟩ = false := by
          simp [isN, wordsOf, hkk]
        rw [ei]
        simp only [f62, ruA, ruB, ruC, ruE, ruD, lenStr, Int.reduceBEq, Int.reduceBNe, lb, li, ll, e0, e1, a1, a3, new3, st, l0, ek, Bool.or_true]
        exact Ev.pure _
/-- What is taken. -/
theorem take_ok (h : RfB R H p b ts i bad) (hT : ∀ t ∈ ts, TG b t) (hb : b.length ≤ 8192) (hl : ts.length ≤ 8192) (k : Nat) (g : List UInt8) :
    ∃ H' i', Cl 39 [ptr p 0, .int .i64 (k : Int), .string (bs g)] H (.string (bs (mustN k g ⟨wordsOf b (ts.drop i), bad⟩).1)) H' ∧ Keep (But H p) H H' ∧ RfB R H' p b ts i' (mustN k g ⟨wordsOf b (ts.drop i), bad⟩).2.bad ∧
      (mustN k g ⟨wordsOf b (ts.drop i), bad⟩).2.l = wordsOf b (ts.drop i') ∧ i ≤ i' := by
  obtain ⟨H1, c1, k1⟩ := is_ok h hT hb hl k g
  have h1 := h.move (k1.mono h.1.2) (k1.2 p h.2.1)
  obtain ⟨hl0, hn, vt, vl, g1, g2, g3, g4⟩ := id h1
  cases hi : isN k g ⟨wordsOf b (ts.drop i), bad⟩ with
  | false =>
    rw [hi] at c1
    have e : mustN k g ⟨wordsOf b (ts.drop i), bad⟩ = ([], ⟨wordsOf b (ts.drop i), true⟩) := by unfold mustN; rw [hi]; rfl
    rw [e]
    have st : stV 1 (ptr p 3) (.bool true) H1 = some (undef, H1.upd p (some ⟨[vt, vl, .int .i64 (i : Int), .bool true], 1, true⟩)) := stV1_box g1 (by simp) rfl rfl
    have ku : Keep R H1 (H1.upd p (some ⟨[vt, vl, .int .i64 (i : Int), .bool true], 1, true⟩)) := Keep.upd hl0.1
    refine ⟨H1.upd p (some ⟨[vt, vl, .int .i64 (i : Int), .bool true], 1, true⟩), i, ?_, (k1.mono (all_but H p)).trans (upd_but.mono (but_up k1.1)), ⟨⟨hl0.1, hl0.2.mono ku.1⟩, by rw [upd_n]; exact hn, vt, vl, upd_self, Sl.keep g2 ku, Sl.keep g3 ku, g4⟩, rfl, Nat.le_refl _⟩
    refine Ev.enter (fun n => f39_eq rfl n _ _ _ _) ?_
    simp only [f39, ruA, ruB, ruC, ruE, ruD, lenStr, Int.reduceBEq, Int.reduceBNe]
    refine Ev.callC c1 ?_
    simp only [ruA, ruB, ruC, ruE, ruD, lenStr, Int.reduceBEq, Int.reduceBNe, st]
    exact Ev.pure _
  | true =>
    rw [hi] at c1
    obtain ⟨w0, ws, ew⟩ := is_ne hi
    injection ew with ew eb
    subst eb
    have hlt : i < ts.length := by
      rcases Nat.lt_or_ge i ts.length with h | h
      · exact h
      · rw [List.drop_eq_nil_of_le h] at ew; cases ew
    obtain ⟨t, ht, hd⟩ := drop_at (l := ts) (i := i) hlt
    have e : mustN k g ⟨wordsOf b (ts.drop i), false⟩ = (saysN b t, ⟨wordsOf b (ts.drop (i + 1)), false⟩) := by
      unfold mustN; rw [hi, hd]; rfl
    have hk : t.K = k := by rw [hd] at hi; simp [isN, wordsOf] at hi; exact hi.1
    rw [e]
    obtain ⟨q, o, a1, _, a2, a3⟩ := g3.at ht
    have tg := hT t (List.mem_of_getElem? ht)
    have ll : ldC (ptr p 1) H1 = some (vl, H1) := Box.ld (R := fun _ => True) ⟨trivial, _, _, g1⟩ rfl
    have li : ldC (ptr p 2) H1 = some (.int .i64 (i : Int), H1) := Box.ld (R := fun _ => True) ⟨trivial, _, _, g1⟩ rfl
    have kp : Keep (all H1) H1 (H1.push ⟨TOK t, 1, true⟩) := push_keep
    have st : stV 3 (ptr H1.n 0) (.agg #[.int .i64 (t.K : Int), .int .i64 (t.F : Int), .int .i64 (t.T : Int)]) (H1.push ⟨[.int .i64 0, .int .i64 0, .int .i64 0], 1, true⟩) = some (undef, H1.push ⟨TOK t, 1, true⟩) := stA_push (ds := TOK t) rfl rfl rfl
    have gp : (H1.push ⟨TOK t, 1, true⟩).get p = some ⟨[vt, vl, .int .i64 (i : Int), .bool false], 1, true⟩ := by rw [push_lt hn]; exact g1
    have li2 : ldC (ptr p 2) (H1.push ⟨TOK t, 1, true⟩) = some (.int .i64 (i : Int), H1.push ⟨TOK t, 1, true⟩) := Box.ld (R := fun _ => True) ⟨trivial, _, _, gp⟩ rfl
    have st2 : stV 1 (ptr p 2) (.int .i64 ((i + 1 : Nat) : Int)) (H1.push ⟨TOK t, 1, true⟩) = some (undef, (H1.push ⟨TOK t, 1, true⟩).upd p (some ⟨[vt, vl, .int .i64 ((i + 1 : Nat) : Int), .bool false], 1, true⟩)) := stV1_box gp (by simp) rfl rfl
    have gt : ((H1.push ⟨TOK t, 1, true⟩).upd p (some ⟨[vt, vl, .int .i64 ((i + 1 : Nat) : Int), .bool false], 1, true⟩)).get H1.n = some ⟨TOK t, 1, true⟩ := by
      rw [(upd_but (H := H1.push ⟨TOK t, 1, true⟩) (p := p)).2 H1.n ⟨by simp only [push_n]; omega, by omega⟩]; exact push_self
    have hpu : Keep (all H1) H1 (H1.push ⟨TOK t, 1, true⟩) := kp
    have hR2 : Rb R (H1.push ⟨TOK t, 1, true⟩) := hl0.2.mono kp.1
    have ku : Keep R (H1.push ⟨TOK t, 1, true⟩) ((H1.push ⟨TOK t, 1, true⟩).upd p (some ⟨[vt, vl, .int .i64 ((i + 1 : Nat) : Int), .bool false], 1, true⟩)) := Keep.upd hl0.1
    have K2 : Keep R H1 ((H1.push ⟨TOK t, 1, true⟩).upd p (some ⟨[vt, vl, .int .i64 ((i + 1 : Nat) : Int), .bool false], 1, true⟩)) := (kp.mono hl0.2).trans ku
    have kb : Keep (But H1 p) H1 ((H1.push ⟨TOK t, 1, true⟩).upd p (some ⟨[vt, vl, .int .i64 ((i + 1 : Nat) : Int), .bool false], 1, true⟩)) := (kp.mono (all_but H1 p)).trans (upd_but.mono (but_up kp.1))
    have gq : ((H1.push ⟨TOK t, 1, true⟩).upd p (some ⟨[vt, vl, .int .i64 ((i + 1 : Nat) : Int), .bool false], 1, true⟩)).get p = some ⟨[vt, vl, .int .i64 ((i + 1 : Nat) : Int), .bool false], 1, true⟩ := upd_self
    have hpn : p < ((H1.push ⟨TOK t, 1, true⟩).upd p (some ⟨[vt, vl, .int .i64 ((i + 1 : Nat) : Int), .bool false], 1, true⟩)).n := by rw [upd_n]; simp only [push_n]; omega
    generalize hH2 : (H1.push ⟨TOK t, 1, true⟩).upd p (some ⟨[vt, vl, .int .i64 ((i + 1 : Nat) : Int), .bool false], 1, true⟩) = H2 at *
    have lt : ldC (ptr p 0) H2 = some (vt, H2) := Box.ld (R := fun _ => True) ⟨trivial, _, _, gq⟩ rfl
    have l1 : ldC (ptr H1.n 1) H2 = some (.int .i64 (t.F : Int), H2) := Box.ld (R := fun _ => True) ⟨trivial, _, _, gt⟩ rfl
    have l2 : ldC (ptr H1.n 2) H2 = some (.int .i64 (t.T : Int), H2) := Box.ld (R := fun _ => True) ⟨trivial, _, _, gt⟩ rfl
    have hs2 : SlU R H2 b vt := Sl.keep g2 K2
    refine ⟨H2, i + 1, ?_, (k1.mono (all_but H p)).trans (kb.mono (but_up k1.1)), ⟨⟨hl0.1, hl0.2.mono K2.1⟩, hpn, vt, vl, gq, hs2, Sl.keep g3 K2, hlt⟩, rfl, by omega⟩
    refine Ev.enter (fun n => f39_eq rfl n _ _ _ _) ?_
    simp only [f39, ruA, ruB, ruC, ruE, ruD, lenStr, Int.reduceBEq, Int.reduceBNe]
    refine Ev.callC c1 ?_
    have hup := idx_up (show i < 9223372036854775807 by omega)
    have hF := tg.2.1
    have hT' := tg.2.2.1
    by_cases hk2 : t.K = 2 ∨ t.K = 3
    · have hF2 := tg.2.2.2 hk2
      have es : saysN b t = (b.take (t.T - 1)).drop (t.F + 1) := by unfold saysN; rw [if_pos hk2]
      obtain ⟨u, u1, u2⟩ := hs2.part (k := .i64) (k' := .i64) (i := t.F + 1) (j := t.T - 1) (by omega) (by omega)
      have tsr := toStr_U u2
      have f1 := idx_up (show t.F < 9223372036854775807 by omega)
      have f2 : IntKind.i64.wrap ((t.T : Int) - 1) = ((t.T - 1 : Nat) : Int) := sub_len (a := t.T) (b := 1) (by omega) (by omega)
      rw [es]
      rcases hk2 with h2 | h2
      · have e2 : ((k : Int) == 2) = true := by rw [← hk, h2]; rfl
        simp only [ruA, ruB, ruC, ruE, ruD, lenStr, Int.reduceBEq, Int.reduceBNe, ll, li, a1, a3, new3, st, li2, hup, st2, hH2, e2, lt, l1, l2, f1, f2, u1, tsr]
        exact Ev.pure _
      · have e2 : ((k : Int) == 2) = false := by rw [← hk, h2]; rfl
        have e3 : ((k : Int) == 3) = true := by rw [← hk, h2]; rfl
        simp only [ruA, ruB, ruC, ruE, ruD, lenStr, Int.reduceBEq, Int.reduceBNe, ll, li, a1, a3, new3, st, li2, hup, st2, hH2, e2, e3, lt, l1, l2, f1, f2, u1, tsr]
        exact Ev.pure _
    · have es : saysN b t = (b.take t.T).drop t.F := by unfold saysN; rw [if_neg hk2]
      obtain ⟨u, u1, u2⟩ := hs2.part (k := .i64) (k' := .i64) (i := t.F) (j := t.T) (by omega) (by omega)
      have tsr := toStr_U u2
      have e2 : ((k : Int) == 2) = false := (k_eq' (a := k) (k := 2)).trans (decide_eq_false (by omega))
      have e3 : ((k : Int) == 3) = false := (k_eq' (a := k) (k := 3)).trans (decide_eq_false (by omega))
      rw [es]
      simp only [ruA, ruB, ruC, ruE, ruD, lenStr, Int.reduceBEq, Int.reduceBNe, ll, li, a1, a3, new3, st, li2, hup, st2, hH2, e2, e3, lt, l1, l2, u1, tsr]
      exact Ev.pure _
end
end Go.Eng

/- A file under way: a box with four lists of one's own. -/
set_option linter.unusedVariables false
set_option linter.unusedSimpArgs false
set_option maxRecDepth 100000
namespace Go.Eng
open Go Go.Proofs

section
variable {α : Type} [Rp α] {H0 H H' : Heap} {L L' : Nat → Prop} {v : Value} {xs : List α}
theorem AccR.at (h : AccR H0 H L v xs) {x : Nat} (e : blkOf v = some x) : H0.n ≤ x ∧ x < H.n := by
  obtain ⟨cs, h1, _⟩ := h
  have := h1.at e
  exact ⟨Nat.le_of_not_lt this.1, this.2⟩
theorem AccR.oneC (h : AccR H0 H L v xs) : Eng.oneC v = true ∧ v.cells = #[v] := by
  obtain ⟨cs, h1, _⟩ := h
  exact h1.oneC
/-- Another list is appended to, and a box written. -/
theorem AccR.other {w v' : Value} {q : Nat} {x : Option Blk} (h : AccR H0 H L w xs) (hL : ∀ b, blkOf v = some b → L b) (hk : Keep (fun b => b < H.n ∧ blkOf v ≠ some b) H H') (hd : Ds v w) (hv' : ∀ b, blkOf v' = some b → blkOf v = some b ∨ H.n ≤ b)
    (hq : L q) (hwq : ∀ b, blkOf w = some b → b ≠ q) (hL' : ∀ b, L' b → L b ∨ blkOf v' = some b) : AccR H0 (H'.upd q x) L' w xs := by
  refine h.move ⟨hk.1, fun b hb => ?_⟩ (fun b e => ?_) (fun b hb => ⟨Nat.lt_of_lt_of_le hb.1 hk.1, fun hl => ?_⟩)
  · rw [upd_ne (fun e => hb.2 (by rw [e]; exact hq))]
    exact hk.2 b ⟨hb.1, fun e => hb.2 (hL b e)⟩
  · rw [upd_ne (hwq b e)]
    exact hk.2 b ⟨(h.at e).2, fun e2 => hd b e2 e⟩
  · rcases hL' b hl with h1 | h1
    · exact hb.2 h1
    · rcases hv' b h1 with h2 | h2
      · exact hb.2 (hL b h2)
      · have := hb.1; omega
/-- The list appended to. -/
theorem AccR.self {v' : Value} {q : Nat} {x : Option Blk} (h : AccR H0 H' (fun b => L b ∨ blkOf v' = some b) v' xs) (hq : L q) (hvq : ∀ b, blkOf v' = some b → b ≠ q) (hL' : ∀ b, L' b → L b ∨ blkOf v' = some b) : AccR H0 (H'.upd q x) L' v' xs :=
  h.move ⟨Nat.le_refl _, fun b hb => upd_ne fun e => hb.2 (.inl (by rw [e]; exact hq))⟩ (fun b e => upd_ne (hvq b e)) (fun b hb => ⟨hb.1, fun hl => hb.2 (hL' b hl)⟩)
end
/-- What is written: two boxes, four lists. -/
def Lf (n0 p q : Nat) (a b c d : Value) : Nat → Prop := fun x => x < n0 ∨ x = p ∨ x = q ∨ blkOf a = some x ∨ blkOf b = some x ∨ blkOf c = some x ∨ blkOf d = some x
/-- A file under way: p is the reader's box. -/
structure Four (H0 H : Heap) (p q : Nat) (a b c d : Value) (f : Fl) : Prop where
  g : H.get q = some ⟨[a, .string (bs f.S), b, c, d], 1, true⟩
  q0 : H0.n ≤ q
  qn : q < H.n
  p0 : H0.n ≤ p
  pn : p < H.n
  pq : p ≠ q
  ha : AccR H0 H (Lf H0.n p q a b c d) a (show List Txt from f.I)
  hb : AccR H0 H (Lf H0.n p q a b c d) b f.T
  hc : AccR H0 H (Lf H0.n p q a b c d) c f.P
  hd : AccR H0 H (Lf H0.n p q a b c d) d f.R
  ab : Ds a b
  ac : Ds a c
  ad : Ds a d
  bc : Ds b c
  bd : Ds b d
  cd : Ds c d
  na : ∀ x, blkOf a = some x → x ≠ p ∧ x ≠ q
  nb : ∀ x, blkOf b = some x → x ≠ p ∧ x ≠ q
  nc : ∀ x, blkOf c = some x → x ≠ p ∧ x ≠ q
  nd : ∀ x, blkOf d = some x → x ≠ p ∧ x ≠ q
theorem Ds.nil {v : Value} : Ds nilS v := fun b h => by cases h
section
variable {H0 H H' : Heap} {p q : Nat} {a b c d : Value} {f : Fl}
theorem Four.hn (h : Four H0 H p q a b c d f) : H0.n ≤ H.n := Nat.le_of_lt (Nat.lt_of_le_of_lt h.q0 h.qn)
theorem Four.newS {s : List UInt8} (h : H.get q = some ⟨[nilS, .string (bs s), nilS, nilS, nilS], 1, true⟩) (q0 : H0.n ≤ q) (qn : q < H.n) (p0 : H0.n ≤ p) (pn : p < H.n) (pq : p ≠ q) : Four H0 H p q nilS nilS nilS nilS { Fl.none with S := s } where
  g := h
  q0 := q0
  qn := qn
  p0 := p0
  pn := pn
  pq := pq
  ha := AccR.nil
  hb := AccR.nil
  hc := AccR.nil
  hd := AccR.nil
  ab := Ds.nil
  ac := Ds.nil
  ad := Ds.nil
  bc := Ds.nil
  bd := Ds.nil
  cd := Ds.nil
  na := fun x e => by cases e
  nb := fun x e => by cases e
  nc := fun x e => by cases e
  nd := fun x e => by cases e
theorem Four.new (h : H.get q = some ⟨[nilS, .string (bs []), nilS, nilS, nilS], 1, true⟩) (q0 : H0.n ≤ q) (qn : q < H.n) (p0 : H0.n ≤ p) (pn : p < H.n) (pq : p ≠ q) : Four H0 H p q nilS nilS nilS nilS Fl.none := Four.newS (s := []) h q0 qn p0 pn pq
theorem Four.move (h : Four H0 H p q a b c d f) (hk : Keep (But H p) H H') : Four H0 H' p q a b c d f :=
  have kk : Keep (Stay H (Lf H0.n p q a b c d)) H H' := hk.mono fun x hx => ⟨hx.1, fun e => hx.2 (.inr (.inl e))⟩
  have ks : ∀ x, Stay H (Lf H0.n p q a b c d) x → Stay H' (Lf H0.n p q a b c d) x := fun x hx => ⟨Nat.lt_of_lt_of_le hx.1 hk.1, hx.2⟩
  { h with
    g := by rw [hk.2 q ⟨h.qn, h.pq.symm⟩]; exact h.g
    qn := Nat.lt_of_lt_of_le h.qn hk.1
    pn := Nat.lt_of_lt_of_le h.pn hk.1
    ha := h.ha.move kk (fun x e => hk.2 x ⟨(h.ha.at e).2, (h.na x e).1⟩) ks
    hb := h.hb.move kk (fun x e => hk.2 x ⟨(h.hb.at e).2, (h.nb x e).1⟩) ks
    hc := h.hc.move kk (fun x e => hk.2 x ⟨(h.hc.at e).2, (h.nc x e).1⟩) ks
    hd := h.hd.move kk (fun x e => hk.2 x ⟨(h.hd.at e).2, (h.nd x e).1⟩) ks }
theorem Four.setS (h : Four H0 H p q a b c d f) (s : List UInt8) : stV 1 (ptr q 1) (.string (bs s)) H = some (undef, H.upd q (some ⟨[a, .string (bs s), b, c, d], 1, true⟩)) ∧
    Four H0 (H.upd q (some ⟨[a, .string (bs s), b, c, d], 1, true⟩)) p q a b c d { f with S := s } ∧ Keep (But H q) H (H.upd q (some ⟨[a, .string (bs s), b, c, d], 1, true⟩)) := by
  have ku : Keep (But H q) H (H.upd q (some ⟨[a, .string (bs s), b, c, d], 1, true⟩)) := upd_butQ
  have kk : Keep (Stay H (Lf H0.n p q a b c d)) H (H.upd q (some ⟨[a, .string (bs s), b, c, d], 1, true⟩)) := ku.mono fun x hx => ⟨hx.1, fun e => hx.2 (.inr (.inr (.inl e)))⟩
  refine ⟨stV1_box h.g (by simp) rfl rfl, { h with
    g := upd_self
    qn := h.qn
    pn := h.pn
    ha := h.ha.move kk (fun x e => ku.2 x ⟨(h.ha.at e).2, (h.na x e).2⟩) (fun x hx => hx)
    hb := h.hb.move kk (fun x e => ku.2 x ⟨(h.hb.at e).2, (h.nb x e).2⟩) (fun x hx => hx)
    hc := h.hc.move kk (fun x e => ku.2 x ⟨(h.hc.at e).2, (h.nc x e).2⟩) (fun x hx => hx)
    hd := h.hd.move kk (fun x e => ku.2 x ⟨(h.hd.at e).2, (h.nd x e).2⟩) (fun x hx => hx) }, ku⟩
theorem Four.addI (h : Four H0 H p q a b c d f) {x : List UInt8} {cx : List Value} (hx : Rp.rep (α := Txt) (Stay H (Lf H0.n p q a b c d)) H x cx) (hl : f.I.length < 1000000000000) :
    ∃ a' H', Eng.app 1 16 a (.slice (some ⟨H.n, 0, none⟩) 1 1) (H.push ⟨cx, 1, true⟩) = some (a', H') ∧ stV 1 (ptr q 0) a' H' = some (undef, H'.upd q (some ⟨[a', .string (bs f.S), b, c, d], 1, true⟩)) ∧
      Four H0 (H'.upd q (some ⟨[a', .string (bs f.S), b, c, d], 1, true⟩)) p q a' b c d { f with I := f.I ++ [x] } ∧ Keep (fun x => x < H0.n ∨ x = p) H (H'.upd q (some ⟨[a', .string (bs f.S), b, c, d], 1, true⟩)) := by
  have hm : mostBytes = 140737488355328 := rfl
  obtain ⟨v', H', g1, g2, g3, g4⟩ := AccR.add (by_ := 16) h.ha h.hn hx (by show (f.I.length + 1) * 16 ≤ mostBytes; omega) (fun x e => by unfold Lf; simp [e])
  have nq : ∀ x, blkOf v' = some x → x ≠ p ∧ x ≠ q := fun x e => by
    rcases g4 x e with h1 | h1
    · exact h.na x h1
    · exact ⟨by have := h.pn; omega, by have := h.qn; omega⟩
  have gq : H'.get q = some ⟨[a, .string (bs f.S), b, c, d], 1, true⟩ := by
    rw [g3.2 q ⟨h.qn, fun e => (h.na q e).2 rfl⟩]; exact h.g
  have hL' : ∀ x, Lf H0.n p q v' b c d x → Lf H0.n p q a b c d x ∨ blkOf v' = some x := fun x hx => by
    unfold Lf at hx ⊢
    rcases hx with h1 | h1 | h1 | h1 | h1 | h1 | h1 <;> simp [h1]
  have hL : ∀ x, blkOf a = some x → Lf H0.n p q a b c d x := fun x e => by unfold Lf; simp [e]
  have hlq : Lf H0.n p q a b c d q := .inr (.inr (.inl rfl))
  have nds : ∀ w : Value, Ds a w → (∀ x, blkOf w = some x → x < H.n) → Ds v' w := fun w hd hw x e1 e2 => by
    rcases g4 x e1 with h1 | h1
    · exact hd x h1 e2
    · have := hw x e2; omega
  refine ⟨v', H', g1, stV1_box gq (by simp) g2.oneC.2 g2.oneC.1, { h with
    g := upd_self
    qn := Nat.lt_of_lt_of_le h.qn g3.1
    pn := Nat.lt_of_lt_of_le h.pn g3.1
    ha := AccR.self g2 hlq (fun x e => (nq x e).2) hL'
    hb := h.hb.other hL g3 h.ab g4 hlq (fun x e => (h.nb x e).2) hL'
    hc := h.hc.other hL g3 h.ac g4 hlq (fun x e => (h.nc x e).2) hL'
    hd := h.hd.other hL g3 h.ad g4 hlq (fun x e => (h.nd x e).2) hL'
    ab := nds b h.ab (fun x e => (h.hb.at e).2)
    ac := nds c h.ac (fun x e => (h.hc.at e).2)
    ad := nds d h.ad (fun x e => (h.hd.at e).2)
    na := nq }, ⟨g3.1, fun x hx => ?_⟩⟩
  rcases hx with hx | hx
  · rw [upd_ne (by have := h.q0; omega)]
    exact g3.2 x ⟨Nat.lt_of_lt_of_le hx h.hn, fun e => by have := (h.ha.at e).1; omega⟩
  · rw [hx, upd_ne h.pq]
    exact g3.2 p ⟨h.pn, fun e => (h.na p e).1 rfl⟩
theorem Four.addT (h : Four H0 H p q a b c d f) {x : Tm} {cx : List Value} (hx : Rp.rep (Stay H (Lf H0.n p q a b c d)) H x cx) (hl : f.T.length < 1000000000000) :
    ∃ b' H', Eng.app 3 40 b (.slice (some ⟨H.n, 0, none⟩) 1 1) (H.push ⟨cx, 3, true⟩) = some (b', H') ∧ stV 1 (ptr q 2) b' H' = some (undef, H'.upd q (some ⟨[a, .string (bs f.S), b', c, d], 1, true⟩)) ∧
      Four H0 (H'.upd q (some ⟨[a, .string (bs f.S), b', c, d], 1, true⟩)) p q a b' c d { f with T := f.T ++ [x] } ∧ Keep (fun x => x < H0.n ∨ x = p) H (H'.upd q (some ⟨[a, .string (bs f.S), b', c, d], 1, true⟩)) := by
  have hm : mostBytes = 140737488355328 := rfl
  obtain ⟨v', H', g1, g2, g3, g4⟩ := AccR.add (by_ := 40) h.hb h.hn hx (by show (f.T.length + 1) * 40 ≤ mostBytes; omega) (fun x e => by unfold Lf; simp [e])
  have nq : ∀ x, blkOf v' = some x → x ≠ p ∧ x ≠ q := fun x e => by
    rcases g4 x e with h1 | h1
    · exact h.nb x h1
    · exact ⟨by have := h.pn; omega, by have := h.qn; omega⟩
  have gq : H'.get q = some ⟨[a, .string (bs f.S), b, c, d], 1, true⟩ := by
    rw [g3.2 q ⟨h.qn, fun e => (h.nb q e).2 rfl⟩]; exact h.g
  have hL' : ∀ x, Lf H0.n p q a v' c d x → Lf H0.n p q a b c d x ∨ blkOf v' = some x := fun x hx => by
    unfold Lf at hx ⊢
    rcases hx with h1 | h1 | h1 | h1 | h1 | h1 | h1 <;> simp [h1]
  have hL : ∀ x, blkOf b = some x → Lf H0.n p q a b c d x := fun x e => by unfold Lf; simp [e]
  have hlq : Lf H0.n p q a b c d q := .inr (.inr (.inl rfl))
  have nds : ∀ w : Value, Ds b w → (∀ x, blkOf w = some x → x < H.n) → Ds v' w := fun w hd hw x e1 e2 => by
    rcases g4 x e1 with h1 | h1
    · exact hd x h1 e2
    · have := hw x e2; omega
  refine ⟨v', H', g1, stV1_box gq (by simp) g2.oneC.2 g2.oneC.1, { h with
    g := upd_self
    qn := Nat.lt_of_lt_of_le h.qn g3.1
    pn := Nat.lt_of_lt_of_le h.pn g3.1
    ha := h.ha.other hL g3 h.ab.symm g4 hlq (fun x e => (h.na x e).2) hL'
    hb := AccR.self g2 hlq (fun x e => (nq x e).2) hL'
    hc := h.hc.other hL g3 h.bc g4 hlq (fun x e => (h.nc x e).2) hL'
    hd := h.hd.other hL g3 h.bd g4 hlq (fun x e => (h.nd x e).2) hL'
    ab := (nds a h.ab.symm (fun x e => (h.ha.at e).2)).symm
    bc := nds c h.bc (fun x e => (h.hc.at e).2)
    bd := nds d h.bd (fun x e => (h.hd.at e).2)
    nb := nq }, ⟨g3.1, fun x hx => ?_⟩⟩
  rcases hx with hx | hx
  · rw [upd_ne (by have := h.q0; omega)]
    exact g3.2 x ⟨Nat.lt_of_lt_of_le hx h.hn, fun e => by have := (h.hb.at e).1; omega⟩
  · rw [hx, upd_ne h.pq]
    exact g3.2 p ⟨h.pn, fun e => (h.nb p e).1 rfl⟩
theorem Four.addP (h : Four H0 H p q a b c d f) {x : Pr} {cx : List Value} (hx : Rp.rep (Stay H (Lf H0.n p q a b c d)) H x cx) (hl : f.P.length < 1000000000000) :
    ∃ c' H', Eng.app 2 32 c (.slice (some ⟨H.n, 0, none⟩) 1 1) (H.push ⟨cx, 2, true⟩) = some (c', H') ∧ stV 1 (ptr q 3) c' H' = some (undef, H'.upd q (some ⟨[a, .string (bs f.S), b, c', d], 1, true⟩)) ∧
      Four H0 (H'.upd q (some ⟨[a, .string (bs f.S), b, c', d], 1, true⟩)) p q a b c' d { f with P := f.P ++ [x] } ∧ Keep (fun x => x < H0.n ∨ x = p) H (H'.upd q (some ⟨[a, .string (bs f.S), b, c', d], 1, true⟩)) := by
  have hm : mostBytes = 140737488355328 := rfl
  obtain ⟨v', H', g1, g2, g3, g4⟩ := AccR.add (by_ := 32) h.hc h.hn hx (by show (f.P.length + 1) * 32 ≤ mostBytes; omega) (fun x e => by unfold Lf; simp [e])
  have nq : ∀ x, blkOf v' = some x → x ≠ p ∧ x ≠ q := fun x e => by
    rcases g4 x e with h1 | h1
    · exact h.nc x h1
    · exact ⟨by have := h.pn; omega, by have := h.qn; omega⟩
  have gq : H'.get q = some ⟨[a, .string (bs f.S), b, c, d], 1, true⟩ := by
    rw [g3.2 q ⟨h.qn, fun e => (h.nc q e).2 rfl⟩]; exact h.g
  have hL' : ∀ x, Lf H0.n p q a b v' d x → Lf H0.n p q a b c d x ∨ blkOf v' = some x := fun x hx => by
    unfold Lf at hx ⊢
    rcases hx with h1 | h1 | h1 | h1 | h1 | h1 | h1 <;> simp [h1]
  have hL : ∀ x, blkOf c = some x → Lf H0.n p q a b c d x := fun x e => by unfold Lf; simp [e]
  have hlq : Lf H0.n p q a b c d q := .inr (.inr (.inl rfl))
  have nds : ∀ w : Value, Ds c w → (∀ x, blkOf w = some x → x < H.n) → Ds v' w := fun w hd hw x e1 e2 => by
    rcases g4 x e1 with h1 | h1
    · exact hd x h1 e2
    · have := hw x e2; omega
  refine ⟨v', H', g1, stV1_box gq (by simp) g2.oneC.2 g2.oneC.1, { h with
    g := upd_self
    qn := Nat.lt_of_lt_of_le h.qn g3.1
    pn := Nat.lt_of_lt_of_le h.pn g3.1
    ha := h.ha.other hL g3 h.ac.symm g4 hlq (fun x e => (h.na x e).2) hL'
    hb := h.hb.other hL g3 h.bc.symm g4 hlq (fun x e => (h.nb x e).2) hL'
    hc := AccR.self g2 hlq (fun x e => (nq x e).2) hL'
    hd := h.hd.other hL g3 h.cd g4 hlq (fun x e => (h.nd x e).2) hL'
    ac := (nds a h.ac.symm (fun x e => (h.ha.at e).2)).symm
    bc := (nds b h.bc.symm (fun x e => (h.hb.at e).2)).symm
    cd := nds d h.cd (fun x e => (h.hd.at e).2)
    nc := nq }, ⟨g3.1, fun x hx => ?_⟩⟩
  rcases hx with hx | hx
  · rw [upd_ne (by have := h.q0; omega)]
    exact g3.2 x ⟨Nat.lt_of_lt_of_le hx h.hn, fun e => by have := (h.hc.at e).1; omega⟩
  · rw [hx, upd_ne h.pq]
    exact g3.2 p ⟨h.pn, fun e => (h.nc p e).1 rfl⟩
theorem Four.addR (h : Four H0 H p q a b c d f) {x : Rl} {cx : List Value} (hx : Rp.rep (Stay H (Lf H0.n p q a b c d)) H x cx) (hl : f.R.length < 1000000000000) :
    ∃ d' H', Eng.app 2 40 d (.slice (some ⟨H.n, 0, none⟩) 1 1) (H.push ⟨cx, 2, true⟩) = some (d', H') ∧ stV 1 (ptr q 4) d' H' = some (undef, H'.upd q (some ⟨[a, .string (bs f.S), b, c, d'], 1, true⟩)) ∧
      Four H0 (H'.upd q (some ⟨[a, .string (bs f.S), b, c, d'], 1, true⟩)) p q a b c d' { f with R := f.R ++ [x] } ∧ Keep (fun x => x < H0.n ∨ x = p) H (H'.upd q (some ⟨[a, .string (bs f.S), b, c, d'], 1, true⟩)) := by
  have hm : mostBytes = 140737488355328 := rfl
  obtain ⟨v', H', g1, g2, g3, g4⟩ := AccR.add (by_ := 40) h.hd h.hn hx (by show (f.R.length + 1) * 40 ≤ mostBytes; omega) (fun x e => by unfold Lf; simp [e])
  have nq : ∀ x, blkOf v' = some x → x ≠ p ∧ x ≠ q := fun x e => by
    rcases g4 x e with h1 | h1
    · exact h.nd x h1
    · exact ⟨by have := h.pn; omega, by have := h.qn; omega⟩
  have gq : H'.get q = some ⟨[a, .string (bs f.S), b, c, d], 1, true⟩ := by
    rw [g3.2 q ⟨h.qn, fun e => (h.nd q e).2 rfl⟩]; exact h.g
  have hL' : ∀ x, Lf H0.n p q a b c v' x → Lf H0.n p q a b c d x ∨ blkOf v' = some x := fun x hx => by
    unfold Lf at hx ⊢
    rcases hx with h1 | h1 | h1 | h1 | h1 | h1 | h1 <;> simp [h1]
  have hL : ∀ x, blkOf d = some x → Lf H0.n p q a b c d x := fun x e => by unfold Lf; simp [e]
  have hlq : Lf H0.n p q a b c d q := .inr (.inr (.inl rfl))
  have nds : ∀ w : Value, Ds d w → (∀ x, blkOf w = some x → x < H.n) → Ds v' w := fun w hd hw x e1 e2 => by
    rcases g4 x e1 with h1 | h1
    · exact hd x h1 e2
    · have := hw x e2; omega
  refine ⟨v', H', g1, stV1_box gq (by simp) g2.oneC.2 g2.oneC.1, { h with
    g := upd_self
    qn := Nat.lt_of_lt_of_le h.qn g3.1
    pn := Nat.lt_of_lt_of_le h.pn g3.1
    ha := h.ha.other hL g3 h.ad.symm g4 hlq (fun x e => (h.na x e).2) hL'
    hb := h.hb.other hL g3 h.bd.symm g4 hlq (fun x e => (h.nb x e).2) hL'
    hc := h.hc.other hL g3 h.cd.symm g4 hlq (fun x e => (h.nc x e).2) hL'
    hd := AccR.self g2 hlq (fun x e => (nq x e).2) hL'
    ad := (nds a h.ad.symm (fun x e => (h.ha.at e).2)).symm
    bd := (nds b h.bd.symm (fun x e => (h.hb.at e).2)).symm
    cd := (nds c h.cd.symm (fun x e => (h.hc.at e).2)).symm
    nd := nq }, ⟨g3.1, fun x hx => ?_⟩⟩
  rcases hx with hx | hx
  · rw [upd_ne (by have := h.q0; omega)]
    exact g3.2 x ⟨Nat.lt_of_lt_of_le hx h.hn, fun e => by have := (h.hd.at e).1; omega⟩
  · rw [hx, upd_ne h.pq]
    exact g3.2 p ⟨h.pn, fun e => (h.nd p e).1 rfl⟩
end
/-- A file under way. -/
def FlB (H0 H : Heap) (p q : Nat) (f : Fl) : Prop := ∃ a b c d, Four H0 H p q a b c d f
theorem FlB.move {H0 H H' : Heap} {p q : Nat} {f : Fl} (h : FlB H0 H p q f) (hk : Keep (But H p) H H') : FlB H0 H' p q f := by
  obtain ⟨a, b, c, d, h⟩ := h
  exact ⟨a, b, c, d, h.move hk⟩
end Go.Eng

/- The program's reader: a line. -/
set_option linter.unusedVariables false
set_option linter.unusedSimpArgs false
set_option linter.unusedSectionVars false
set_option maxRecDepth 100000
namespace Go.Eng
open Go Go.Proofs

theorem AccN.sli {α : Type} [Rp α] {H0 H : Heap} {X R : Nat → Prop} {v : Value} {xs : List α} (h : AccN H0 H X v xs) (hR : ∀ q, H0.n ≤ q → q < H.n → R q) : Sli R H xs v := by
  obtain ⟨cs, h1, h2⟩ := h
  exact ⟨cs, h1.read fun q a b => hR q (Nat.le_of_not_lt a) b, h2.mono fun q hq => hR q hq.1 hq.2.1⟩
theorem AccN.oneC {α : Type} [Rp α] {H0 H : Heap} {X : Nat → Prop} {v : Value} {xs : List α} (h : AccN H0 H X v xs) : Eng.oneC v = true ∧ v.cells = #[v] := by
  obtain ⟨cs, h1, _⟩ := h
  exact h1.oneC
theorem bld0T {H : Heap} {s : ByteArray} {x : Bool} : bld [.string ⟨#[]⟩, .string ⟨#[]⟩, .bool false] [(0, 1, .string s), (2, 1, .bool x)] H = some (.agg #[.string s, .string ⟨#[]⟩, .bool x], H) := by kernel_rfl
theorem bldT {H : Heap} {s t : ByteArray} {x : Bool} : bldS 3 1 [.string ⟨#[]⟩, .string ⟨#[]⟩, .bool false] [(0, 3, .agg #[.string s, .string t, .bool x])] H = some (.slice (some ⟨H.n, 0, none⟩) 1 1, H.push ⟨[.string s, .string t, .bool x], 3, true⟩) := by kernel_rfl
theorem bldP0 {H : Heap} {x : Int} {w : Value} (h1 : Eng.oneC w = true) (h2 : w.cells = #[w]) : bld [.int .i64 0, .slice none 0 0] [(0, 1, .int .i64 x), (1, 1, w)] H = some (.agg #[.int .i64 x, w], H) := by
  have e : (Value.int .i64 x).cells = #[.int .i64 x] := rfl
  simp [bld, fillC, splice, h2, e]
theorem bldP {H : Heap} {x : Int} {w : Value} (h1 : Eng.oneC w = true) (h2 : w.cells = #[w]) : bldS 2 1 [.int .i64 0, .slice none 0 0] [(0, 2, .agg #[.int .i64 x, w])] H = some (.slice (some ⟨H.n, 0, none⟩) 1 1, H.push ⟨[.int .i64 x, w], 2, true⟩) := by
  have e : fillC (rep 1 [.int .i64 0, .slice none 0 0]) [(0, 2, .agg #[.int .i64 x, w])] = some [.int .i64 x, w] := rfl
  have hall : ([.int .i64 x, w] : List Value).all Eng.oneC = true := by simp [h1]; rfl
  simp only [bldS, e, newS, hall, if_true]
theorem bldR {H : Heap} {s : ByteArray} {w : Value} (h1 : Eng.oneC w = true) (h2 : w.cells = #[w]) : bldS 2 1 [.string ⟨#[]⟩, .slice none 0 0] [(0, 2, .agg #[.string s, w])] H = some (.slice (some ⟨H.n, 0, none⟩) 1 1, H.push ⟨[.string s, w], 2, true⟩) := by
  have e : fillC (rep 1 [.string ⟨#[]⟩, .slice none 0 0]) [(0, 2, .agg #[.string s, w])] = some [.string s, w] := rfl
  have hall : ([.string s, w] : List Value).all Eng.oneC = true := by simp [h1]; rfl
  simp only [bldS, e, newS, hall, if_true]
def flen (f : Fl) : Nat := f.I.length + f.T.length + f.P.length + f.R.length
section
variable {R : Nat → Prop} {H0 H : Heap} {p q : Nat} {b : List UInt8} {f : Fl} {ts : List Tok} {bad : Bool}
/-- What a line leaves. -/
def LnP (H0 : Heap) (R : Nat → Prop) (p q : Nat) (b : List UInt8) (ts0 : List Tok) (x : Fl × Rd) (H' : Heap) : Prop :=
  ∃ ts', RdB R H' p b ts' x.2.bad ∧ x.2.l = wordsOf b ts' ∧ ts' <:+ ts0 ∧ FlB H0 H' p q x.1 ∧ (∀ x, x < H0.n → x < H'.n)
theorem but_low {H0 H H' : Heap} {p : Nat} (hp : H0.n ≤ p) (hn : H0.n ≤ H.n) (hk : Keep (But H p) H H') : Keep (all H0) H H' := hk.mono fun x hx => ⟨Nat.lt_of_lt_of_le hx hn, fun e => by have : x < H0.n := hx; omega⟩
theorem rd_low {H0 H H' : Heap} {p : Nat} (h : RdB R H p b ts bad) (hRb : Rb R H0) (hk : Keep (fun x => x < H0.n ∨ x = p) H H') : RdB R H' p b ts bad := h.move (hk.mono fun x hx => .inl (hRb x hx)) (hk.2 p (.inr rfl))
theorem line_J1 (hRb : Rb R H0) (hR : RdB R H p b ts bad) (hT : ∀ t ∈ ts, TG b t) (hb : b.length ≤ 8192) (hf : FlB H0 H p q f) :
    ∃ H', Ev (fun n m => f18_J1 real (AC n) n (ptr p 0) H) (.tuple #[], H') ∧ Keep (all H0) H H' ∧ LnP H0 R p q b ts (f, (mustN 4 [59] ⟨wordsOf b ts, bad⟩).2) H' := by
  obtain ⟨s, H', ts', c, k, r, l, s', _⟩ := must_ok hR hT hb 4 [59]
  have h0 : H0.n ≤ p ∧ H0.n ≤ H.n := by obtain ⟨_, _, _, _, h⟩ := hf; exact ⟨h.p0, h.hn⟩
  refine ⟨H', ?_, but_low h0.1 h0.2 k, ts', r, l, s', hf.move k, fun x hx => Nat.lt_of_lt_of_le hx (Nat.le_trans h0.2 k.1)⟩
  simp only [f18_J1, ruA, ruB, ruC, ruE, ruD, lenStr, Int.reduceBEq, Int.reduceBNe]
  refine Ev.callC c ?_
  exact Ev.pure _
/-- A line's end, behind what has been done. -/
theorem LnP.of {ts1 ts2 : List Tok} {x : Fl × Rd} {H' : Heap} (h : LnP H0 R p q b ts1 x H') (hs : ts1 <:+ ts2) : LnP H0 R p q b ts2 x H' := by
  obtain ⟨ts', r, l, s, g⟩ := h
  exact ⟨ts', r, l, s.trans hs, g⟩
/-- A line's head. -/
theorem line_pre {t : Tok} (hR : RdB R H p b (t :: ts) false) : ∃ vl vl' x o H1, ldC (ptr p 1) H = some (vl, H) ∧ iAddrS 3 vl (.int .i64 0) = some (ptr x o) ∧ ldC (ptr x o) H = some (.int .i64 (t.K : Int), H) ∧ slcS 3 vl (some (.int .i64 1)) none none = some vl' ∧
    stV 1 (ptr p 1) vl' H = some (undef, H1) ∧ RdB R H1 p b ts false ∧ Keep (But H p) H H1 := by
  obtain ⟨hl, hn, vt, vl, g1, g2, g3⟩ := id hR
  obtain ⟨vl', s1, s2⟩ := Tks.rest g3
  obtain ⟨x, o, a1, _, a2, _⟩ := g3.at (i := 0) (t := t) rfl
  have hc : Eng.oneC vl' = true ∧ vl'.cells = #[vl'] := Sl.oneC s2
  have ll : ldC (ptr p 1) H = some (vl, H) := Box.ld (R := fun _ => True) ⟨trivial, _, _, g1⟩ rfl
  have st : stV 1 (ptr p 1) vl' H = some (undef, H.upd p (some ⟨[vt, vl', .bool false], 1, true⟩)) := stV1_box g1 (by simp) hc.2 hc.1
  exact ⟨vl, vl', x, o, _, ll, a1, a2, s1, st, RdB.upd (vl := vl) hl hn g2 s2, upd_but⟩
theorem line_good {t : Tok} (h : badN t.K f = false) : lineN ⟨t.K, saysN b t⟩ (wordsOf b ts) f = ((bodyN t.K ⟨wordsOf b ts, false⟩ f).1, (mustN 4 [59] (bodyN t.K ⟨wordsOf b ts, false⟩ f).2).2) := by
  unfold lineN
  rw [if_neg (by simp only [h]; simp)]
variable {t : Tok} (hRb : Rb R H0) (hR : RdB R H p b (t :: ts) false) (hT : ∀ t ∈ ts, TG b t) (hb : b.length ≤ 8192) (hl : ts.length ≤ 8192) (hf : FlB H0 H p q f) (hfl : flen f ≤ 8192)
include hRb hR hT hb hl hf hfl
theorem line_I (hk : t.K = 5) : ∃ H', Cl 18 [ptr p 0, ptr q 0] H (.tuple #[]) H' ∧ Keep (all H0) H H' ∧ LnP H0 R p q b (t :: ts) (lineN ⟨t.K, saysN b t⟩ (wordsOf b ts) f) H' := by
  obtain ⟨vl, vl', x, o, H1, p1, p2, p3, p4, p5, r1, k1⟩ := line_pre hR
  have p3 : ldC (ptr x o) H = some (.int .i64 5, H) := by rw [p3, hk]; rfl
  obtain ⟨va, vb, vc, vd, h4⟩ := hf.move k1
  have h0 : H0.n ≤ H.n := by obtain ⟨_, _, _, _, h⟩ := hf; exact h.hn
  have ld : ldC (ptr q 0) H1 = some (va, H1) := Box.ld (R := fun _ => True) ⟨trivial, _, _, h4.g⟩ rfl
  obtain ⟨s, H2, ts2, c2, k2, r2, l2, s2, v2⟩ := must_ok r1 hT hb 2 []
  have v2 := v2 (by omega)
  have hck : sameBlk H1 H2 (blkOf (ptr q 0)) = true := Box.blk (R := But H1 p) ⟨⟨h4.qn, h4.pq.symm⟩, _, _, h4.g⟩ k2
  have g4 := h4.move k2
  obtain ⟨v', H3, a1, a2, a3, a4⟩ := g4.addI (x := s) (cx := [.string (bs s)]) rfl (by unfold flen at hfl; omega)
  have r3 := rd_low r2 hRb a4
  obtain ⟨H', j1, j2, j3⟩ := line_J1 hRb r3 (fun t ht => hT t (s2.mem ht)) hb ⟨_, _, _, _, a3⟩
  rw [line_good (by rw [hk]; rfl), hk]
  have e : bodyN 5 ⟨wordsOf b ts, false⟩ f = ({ f with I := f.I ++ [s] }, (mustN 2 [] ⟨wordsOf b ts, false⟩).2) := by rw [v2]; rfl
  rw [e]
  rw [← must_l l2] at j3
  refine ⟨H', ?_, (but_low h4.p0 h0 k1).trans (((but_low h4.p0 h4.hn k2).trans (a4.mono fun x hx => .inl hx)).trans j2), (j3.of s2).of (List.suffix_cons _ _)⟩
  refine Ev.enter (fun n => f18_eq rfl n _ _ _) ?_
  simp only [f18, ruA, ruB, ruC, ruE, ruD, lenStr, Int.reduceBEq, Int.reduceBNe, Int.reduceLT, Nat.add_zero, p1, p2, p3, p4, p5, ld]
  refine Ev.callC c2 ?_
  simp only [ruA, ruB, ruC, ruE, ruD, lenStr, Int.reduceBEq, Int.reduceBNe, hck, Bool.and_true, b1s, a1, a2]
  exact j1
theorem line_S (hk : t.K = 6) (hS : f.S = []) : ∃ H', Cl 18 [ptr p 0, ptr q 0] H (.tuple #[]) H' ∧ Keep (all H0) H H' ∧ LnP H0 R p q b (t :: ts) (lineN ⟨t.K, saysN b t⟩ (wordsOf b ts) f) H' := by
  obtain ⟨vl, vl', x, o, H1, p1, p2, p3, p4, p5, r1, k1⟩ := line_pre hR
  have p3 : ldC (ptr x o) H = some (.int .i64 6, H) := by rw [p3, hk]; rfl
  have lS : ldC (ptr q 1) H = some (.string (bs f.S), H) := by obtain ⟨_, _, _, _, h⟩ := hf; exact Box.ld (R := fun _ => True) ⟨trivial, _, _, h.g⟩ rfl
  have h0 : H0.n ≤ H.n := by obtain ⟨_, _, _, _, h⟩ := hf; exact h.hn
  obtain ⟨va, vb, vc, vd, h4⟩ := hf.move k1
  obtain ⟨s, H2, ts2, c2, k2, r2, l2, s2, v2⟩ := must_ok r1 hT hb 1 []
  have v2 := v2 (by omega)
  have g4 := h4.move k2
  obtain ⟨a2, a3, a4⟩ := g4.setS s
  have k4 : Keep (fun x => x < H0.n ∨ x = p) H2 (H2.upd q (some ⟨[va, .string (bs s), vb, vc, vd], 1, true⟩)) := a4.mono fun x hx => by
    have := g4.q0; have := g4.qn; have := g4.pq; have := g4.pn
    rcases hx with hx | hx
    · exact ⟨by omega, by omega⟩
    · exact ⟨by omega, by omega⟩
  have r3 := rd_low r2 hRb k4
  obtain ⟨H', j1, j2, j3⟩ := line_J1 hRb r3 (fun t ht => hT t (s2.mem ht)) hb ⟨_, _, _, _, a3⟩
  have hbad : badN t.K f = false := by rw [hk]; simp [badN, hS]
  rw [line_good hbad, hk]
  have e : bodyN 6 ⟨wordsOf b ts, false⟩ f = ({ f with S := s }, (mustN 1 [] ⟨wordsOf b ts, false⟩).2) := by rw [v2]; rfl
  rw [e]
  rw [← must_l l2] at j3
  refine ⟨H', ?_, (but_low h4.p0 h0 k1).trans (((but_low h4.p0 h4.hn k2).trans (k4.mono fun x hx => .inl hx)).trans j2), (j3.of s2).of (List.suffix_cons _ _)⟩
  refine Ev.enter (fun n => f18_eq rfl n _ _ _) ?_
  simp only [f18, ruA, ruB, ruC, ruE, ruD, lenStr, Int.reduceBEq, Int.reduceBNe, Int.reduceLT, Nat.add_zero, p1, p2, p3, p4, p5, lS, e_empty', decide_eq_true hS]
  refine Ev.callC c2 ?_
  simp only [ruA, ruB, ruC, ruE, ruD, lenStr, Int.reduceBEq, Int.reduceBNe, a2]
  exact j1
theorem line_bad (hk : t.K ≤ 13) (hB : badN t.K f = true) : ∃ H', Cl 18 [ptr p 0, ptr q 0] H (.tuple #[]) H' ∧ Keep (all H0) H H' ∧ LnP H0 R p q b (t :: ts) (lineN ⟨t.K, saysN b t⟩ (wordsOf b ts) f) H' := by
  obtain ⟨vl, vl', x, o, H1, p1, p2, p3, p4, p5, r1, k1⟩ := line_pre hR
  have lS : ldC (ptr q 1) H = some (.string (bs f.S), H) := by obtain ⟨_, _, _, _, h⟩ := hf; exact Box.ld (R := fun _ => True) ⟨trivial, _, _, h.g⟩ rfl
  have h0 : H0.n ≤ p ∧ H0.n ≤ H.n := by obtain ⟨_, _, _, _, h⟩ := hf; exact ⟨h.p0, h.hn⟩
  obtain ⟨hl', hn, vt, vl2, g1, g2, g3⟩ := id hR
  have st : stV 1 (ptr p 2) (.bool true) H = some (undef, H.upd p (some ⟨[vt, vl2, .bool true], 1, true⟩)) := stV1_box g1 (by simp) rfl rfl
  have r : RdB R (H.upd p (some ⟨[vt, vl2, .bool true], 1, true⟩)) p b (t :: ts) true := RdB.upd (vl := vl2) hl' hn g2 g3
  have k : Keep (But H p) H (H.upd p (some ⟨[vt, vl2, .bool true], 1, true⟩)) := upd_but
  have e : lineN ⟨t.K, saysN b t⟩ (wordsOf b ts) f = (f, ⟨wordsOf b (t :: ts), true⟩) := by unfold lineN; rw [if_pos hB]; rfl
  rw [e]
  refine ⟨_, ?_, but_low h0.1 h0.2 k, t :: ts, r, rfl, List.suffix_refl _, hf.move k, fun x hx => Nat.lt_of_lt_of_le hx (Nat.le_trans h0.2 k.1)⟩
  refine Ev.enter (fun n => f18_eq rfl n _ _ _) ?_
  by_cases h5 : t.K < 5
  · have e5 : ((t.K : Int) < 5) = True := eq_true (by omega)
    simp only [f18, ruA, ruB, ruC, ruE, ruD, lenStr, Int.reduceBEq, Int.reduceBNe, Nat.add_zero, p1, p2, p3, e5, st]
    exact Ev.pure _
  · have e5 : ((t.K : Int) < 5) = False := eq_false (by omega)
    by_cases h13 : t.K = 13
    · have p3 : ldC (ptr x o) H = some (.int .i64 13, H) := by rw [p3, h13]; rfl
      simp only [f18, ruA, ruB, ruC, ruE, ruD, lenStr, Int.reduceBEq, Int.reduceBNe, Int.reduceLT, Nat.add_zero, p1, p2, p3, st]
      exact Ev.pure _
    · have h6 : t.K = 6 ∧ f.S ≠ [] := by
        simp only [badN, Bool.or_eq_true, Bool.and_eq_true, decide_eq_true_eq] at hB
        rcases hB with (hB | hB) | hB
        · omega
        · omega
        · exact hB
      have p3 : ldC (ptr x o) H = some (.int .i64 6, H) := by rw [p3, h6.1]; rfl
      simp only [f18, ruA, ruB, ruC, ruE, ruD, lenStr, Int.reduceBEq, Int.reduceBNe, Int.reduceLT, Nat.add_zero, p1, p2, p3, lS, e_empty', decide_eq_false h6.2, st]
      exact Ev.pure _
theorem line_T (hk : t.K = 7 ∨ t.K = 8) : ∃ H', Cl 18 [ptr p 0, ptr q 0] H (.tuple #[]) H' ∧ Keep (all H0) H H' ∧ LnP H0 R p q b (t :: ts) (lineN ⟨t.K, saysN b t⟩ (wordsOf b ts) f) H' := by
  obtain ⟨vl, vl', x, o, H1, p1, p2, p3, p4, p5, r1, k1⟩ := line_pre hR
  have h0 : H0.n ≤ H.n := by obtain ⟨_, _, _, _, h⟩ := hf; exact h.hn
  have hf1 := hf.move k1
  obtain ⟨s, H2, ts2, c2, k2, r2, l2, s2, v2⟩ := must_ok r1 hT hb 1 []
  have v2 := v2 (by omega)
  generalize hskip : decide (t.K = 8) = sk
  have n2 : newV [.string ⟨#[]⟩, .string ⟨#[]⟩, .bool false] H2 = some (ptr H2.n 0, H2.push ⟨[.string ⟨#[]⟩, .string ⟨#[]⟩, .bool false], 1, true⟩) := newV_box rfl
  have st : stV 3 (ptr H2.n 0) (.agg #[.string (bs s), .string ⟨#[]⟩, .bool sk]) (H2.push ⟨[.string ⟨#[]⟩, .string ⟨#[]⟩, .bool false], 1, true⟩) = some (undef, H2.push ⟨[.string (bs s), .string ⟨#[]⟩, .bool sk], 1, true⟩) := stA_push (ds := [.string (bs s), .string ⟨#[]⟩, .bool sk]) rfl rfl rfl
  have kp : Keep (all H2) H2 (H2.push ⟨[.string (bs s), .string ⟨#[]⟩, .bool sk], 1, true⟩) := push_keep
  have hf3 := (hf1.move k2).move (kp.mono (all_but H2 p))
  have r3 := r2.all kp
  have g3 : (H2.push ⟨[.string (bs s), .string ⟨#[]⟩, .bool sk], 1, true⟩).get H2.n = some ⟨[.string (bs s), .string ⟨#[]⟩, .bool sk], 1, true⟩ := push_self
  have hn3 : (H2.push ⟨[.string (bs s), .string ⟨#[]⟩, .bool sk], 1, true⟩).n = H2.n + 1 := push_n
  have hp2 : p < H2.n := r2.2.1
  generalize H2.push ⟨[.string (bs s), .string ⟨#[]⟩, .bool sk], 1, true⟩ = H3 at *
  obtain ⟨s4, H4, ts4, c4, k4, r4, l4, s4', _⟩ := must_ok r3 (fun t ht => hT t (s2.mem ht)) hb 4 [61]
  obtain ⟨s5, H5, ts5, c5, k5, r5, l5, s5', v5⟩ := must_ok r4 (fun t ht => hT t (s2.mem (s4'.mem ht))) hb 3 []
  have v5 := v5 (by omega)
  have hn4 : H3.n ≤ H4.n := k4.1
  have hn5 : H4.n ≤ H5.n := k5.1
  have g5 : H5.get H2.n = some ⟨[.string (bs s), .string ⟨#[]⟩, .bool sk], 1, true⟩ := by rw [k5.2 _ ⟨by omega, by omega⟩, k4.2 _ ⟨by omega, by omega⟩]; exact g3
  have st5 : stV 1 (ptr H2.n 1) (.string (bs s5)) H5 = some (undef, H5.upd H2.n (some ⟨[.string (bs s), .string (bs s5), .bool sk], 1, true⟩)) := stV1_box g5 (by simp) rfl rfl
  obtain ⟨va, vb, vc, vd, h5⟩ := (hf3.move k4).move k5
  have ku : Keep (But H5 H2.n) H5 (H5.upd H2.n (some ⟨[.string (bs s), .string (bs s5), .bool sk], 1, true⟩)) := upd_butQ
  -- nothing of the file lies in the box of the term
  obtain ⟨va, vb, vc, vd, h6⟩ : ∃ a b c d, Four H0 (H5.upd H2.n (some ⟨[.string (bs s), .string (bs s5), .bool sk], 1, true⟩)) p q a b c d f := by
    obtain ⟨a, b', c, d, h⟩ := hf1.move k2
    refine ⟨a, b', c, d, ?_⟩
    have kk : Keep (But H2 p) H2 (H5.upd H2.n (some ⟨[.string (bs s), .string (bs s5), .bool sk], 1, true⟩)) := by
      refine ⟨by rw [upd_n]; omega, fun x hx => ?_⟩
      have hx1 := hx.1
      rw [upd_ne (by omega), k5.2 x ⟨by omega, hx.2⟩, k4.2 x ⟨by omega, hx.2⟩, kp.2 x hx.1]
    exact h.move kk
  have r6 : RdB R (H5.upd H2.n (some ⟨[.string (bs s), .string (bs s5), .bool sk], 1, true⟩)) p b ts5 (mustN 3 [] ⟨wordsOf b ts4, (mustN 4 [61] ⟨wordsOf b ts2, (mustN 1 [] ⟨wordsOf b ts, false⟩).2.bad⟩).2.bad⟩).2.bad :=
    r5.move (ku.mono fun x hx => ⟨r5.1.2 x hx, fun e => by have := r2.1.2 x hx; omega⟩) (ku.2 p ⟨r5.2.1, by omega⟩)
  have g6 : (H5.upd H2.n (some ⟨[.string (bs s), .string (bs s5), .bool sk], 1, true⟩)).get H2.n = some ⟨[.string (bs s), .string (bs s5), .bool sk], 1, true⟩ := upd_self
  have k6 : Keep (all H0) H H5 := (but_low h6.p0 h0 k1).trans ((but_low h6.p0 (Nat.le_trans h0 k1.1) k2).trans ((kp.mono fun x hx => Nat.lt_of_lt_of_le hx (Nat.le_trans h0 (Nat.le_trans k1.1 k2.1))).trans ((but_low h6.p0 (Nat.le_trans h0 (Nat.le_trans k1.1 (Nat.le_trans k2.1 kp.1))) k4).trans (but_low h6.p0 (Nat.le_trans h0 (Nat.le_trans k1.1 (Nat.le_trans k2.1 (Nat.le_trans kp.1 k4.1)))) k5))))
  have k7 : Keep (all H0) H (H5.upd H2.n (some ⟨[.string (bs s), .string (bs s5), .bool sk], 1, true⟩)) := k6.trans (ku.mono fun x hx => by
    have hx' : x < H0.n := hx
    have := Nat.le_trans h0 (Nat.le_trans k1.1 k2.1)
    exact ⟨by omega, by omega⟩)
  generalize hH6 : H5.upd H2.n (some ⟨[.string (bs s), .string (bs s5), .bool sk], 1, true⟩) = H6 at *
  have ld : ldC (ptr q 2) H6 = some (vb, H6) := Box.ld (R := fun _ => True) ⟨trivial, _, _, h6.g⟩ rfl
  have l6 : Eng.ldA 3 (ptr H2.n 0) H6 = some (.agg #[.string (bs s), .string (bs s5), .bool sk], H6) := Box.all (R := fun _ => True) (cs := [.string (bs s), .string (bs s5), .bool sk]) ⟨trivial, _, _, g6⟩ rfl
  obtain ⟨v', H7, a1, a2, a3, a4⟩ := h6.addT (x := ⟨s, s5, sk⟩) (cx := [.string (bs s), .string (bs s5), .bool sk]) (rep_tm.2 rfl) (by unfold flen at hfl; omega)
  have r7 := rd_low r6 hRb a4
  obtain ⟨H', j1, j2, j3⟩ := line_J1 hRb r7 (fun t ht => hT t (s2.mem (s4'.mem (s5'.mem ht)))) hb ⟨_, _, _, _, a3⟩
  have hbad : badN t.K f = false := by rcases hk with h | h <;> rw [h] <;> rfl
  rw [line_good hbad]
  have e : bodyN t.K ⟨wordsOf b ts, false⟩ f = ({ f with T := f.T ++ [⟨s, s5, sk⟩] }, ⟨wordsOf b ts5, (mustN 3 [] ⟨wordsOf b ts4, (mustN 4 [61] ⟨wordsOf b ts2, (mustN 1 [] ⟨wordsOf b ts, false⟩).2.bad⟩).2.bad⟩).2.bad⟩) := by
    have e1 : bodyN t.K ⟨wordsOf b ts, false⟩ f = ({ f with T := f.T ++ [(termN (decide (t.K = 8)) ⟨wordsOf b ts, false⟩).1] }, (termN (decide (t.K = 8)) ⟨wordsOf b ts, false⟩).2) := by
      rcases hk with h | h <;> rw [h] <;> rfl
    rw [e1, hskip]
    unfold termN
    rw [v2, must_l l2, must_l l4, v5, must_l l5]
  rw [e]
  refine ⟨H', ?_, k7.trans ((a4.mono fun x hx => .inl hx).trans j2), (((j3.of s5').of s4').of s2).of (List.suffix_cons _ _)⟩
  refine Ev.enter (fun n => f18_eq rfl n _ _ _) ?_
  have tail : Ev (fun n m => f18_J2 real (AC n) n (ptr p 0) (ptr q 0) (.bool sk) H1) (.tuple #[], H') := by
    simp only [f18_J2, ruA, ruB, ruC, ruE, ruD, lenStr, Int.reduceBEq, Int.reduceBNe]
    refine Ev.callC c2 ?_
    simp only [ruA, ruB, ruC, ruE, ruD, lenStr, Int.reduceBEq, Int.reduceBNe, bld0T, n2, st]
    refine Ev.callC c4 ?_
    refine Ev.callC c5 ?_
    simp only [ruA, ruB, ruC, ruE, ruD, lenStr, Int.reduceBEq, Int.reduceBNe, st5, hH6, ld, l6, bldT, a1, a2]
    exact j1
  rcases hk with hk | hk
  · have p3 : ldC (ptr x o) H = some (.int .i64 7, H) := by rw [p3, hk]; rfl
    have : sk = false := by rw [← hskip, hk]; rfl
    subst this
    simp only [f18, ruA, ruB, ruC, ruE, ruD, lenStr, Int.reduceBEq, Int.reduceBNe, Int.reduceLT, Nat.add_zero, p1, p2, p3, p4, p5]
    exact tail
  · have p3 : ldC (ptr x o) H = some (.int .i64 8, H) := by rw [p3, hk]; rfl
    have : sk = true := by rw [← hskip, hk]; rfl
    subst this
    simp only [f18, ruA, ruB, ruC, ruE, ruD, lenStr, Int.reduceBEq, Int.reduceBNe, Int.reduceLT, Nat.add_zero, p1, p2, p3, p4, p5]
    exact tail
theorem line_R (hk : t.K = 12) : ∃ H', Cl 18 [ptr p 0, ptr q 0] H (.tuple #[]) H' ∧ Keep (all H0) H H' ∧ LnP H0 R p q b (t :: ts) (lineN ⟨t.K, saysN b t⟩ (wordsOf b ts) f) H' := by
  obtain ⟨vl, vl', x, o, H1, p1, p2, p3, p4, p5, r1, k1⟩ := line_pre hR
  have p3 : ldC (ptr x o) H = some (.int .i64 12, H) := by rw [p3, hk]; rfl
  obtain ⟨va, vb, vc, vd, h4⟩ := hf.move k1
  have h0 : H0.n ≤ H.n := by obtain ⟨_, _, _, _, h⟩ := hf; exact h.hn
  have ld : ldC (ptr q 4) H1 = some (vd, H1) := Box.ld (R := fun _ => True) ⟨trivial, _, _, h4.g⟩ rfl
  obtain ⟨w, H2, ts2, bad2, X, c2, k2, r2, s2, e2, w2⟩ := rule_ok r1 hT hb hl
  have hck : sameBlk H1 H2 (blkOf (ptr q 4)) = true := Box.blk (R := But H1 p) ⟨⟨h4.qn, h4.pq.symm⟩, _, _, h4.g⟩ k2
  have g4 := h4.move k2
  have hlt : ∀ x, Lf H0.n p q va vb vc vd x → x < H1.n := fun x hx => by
    rcases hx with hx | rfl | rfl | hx | hx | hx | hx
    · exact Nat.lt_of_lt_of_le hx h4.hn
    · exact h4.pn
    · exact h4.qn
    · exact (h4.ha.at hx).2
    · exact (h4.hb.at hx).2
    · exact (h4.hc.at hx).2
    · exact (h4.hd.at hx).2
  have hrep : Rp.rep (Stay H2 (Lf H0.n p q va vb vc vd)) H2 (ruleN ⟨wordsOf b ts, false⟩).1 [.string (bs (ruleN ⟨wordsOf b ts, false⟩).1.N), w] :=
    rep_rl.2 ⟨w, rfl, w2.sli fun x h1 h2 => ⟨h2, fun e => by have := hlt x e; omega⟩⟩
  obtain ⟨v', H3, a1, a2, a3, a4⟩ := g4.addR hrep (by unfold flen at hfl; omega)
  have r3 := rd_low r2 hRb a4
  obtain ⟨H', j1, j2, j3⟩ := line_J1 hRb r3 (fun t ht => hT t (s2.mem ht)) hb ⟨_, _, _, _, a3⟩
  rw [line_good (by rw [hk]; rfl), hk]
  have e : bodyN 12 ⟨wordsOf b ts, false⟩ f = ({ f with R := f.R ++ [(ruleN ⟨wordsOf b ts, false⟩).1] }, ⟨wordsOf b ts2, bad2⟩) := by rw [← e2]; rfl
  rw [e]
  refine ⟨H', ?_, (but_low h4.p0 h0 k1).trans (((but_low h4.p0 h4.hn k2).trans (a4.mono fun x hx => .inl hx)).trans j2), (j3.of s2).of (List.suffix_cons _ _)⟩
  refine Ev.enter (fun n => f18_eq rfl n _ _ _) ?_
  simp only [f18, ruA, ruB, ruC, ruE, ruD, lenStr, Int.reduceBEq, Int.reduceBNe, Int.reduceLT, Nat.add_zero, p1, p2, p3, p4, p5, ld]
  refine Ev.callC c2 ?_
  obtain ⟨o1, o2⟩ := w2.oneC
  simp only [ruA, ruB, ruC, ruE, ruD, lenStr, Int.reduceBEq, Int.reduceBNe, hck, Bool.and_true, bldR o1 o2, a1, a2]
  exact j1
theorem line_P (hk : t.K = 9 ∨ t.K = 10 ∨ t.K = 11) : ∃ H', Cl 18 [ptr p 0, ptr q 0] H (.tuple #[]) H' ∧ Keep (all H0) H H' ∧ LnP H0 R p q b (t :: ts) (lineN ⟨t.K, saysN b t⟩ (wordsOf b ts) f) H' := by
  have hm : mostBytes = 140737488355328 := rfl
  obtain ⟨vl, vl', x, o, H1, p1, p2, p3, p4, p5, r1, k1⟩ := line_pre hR
  have h0 : H0.n ≤ H.n := by obtain ⟨_, _, _, _, h⟩ := hf; exact h.hn
  have hf1 := hf.move k1
  obtain ⟨s, H2, ts2, c2, k2, r2, l2, s2, v2⟩ := must_ok r1 hT hb 1 []
  have v2 := v2 (by omega)
  obtain ⟨va, vb, vc, vd, h4⟩ := hf1.move k2
  have ld : ldC (ptr q 3) H2 = some (vc, H2) := Box.ld (R := fun _ => True) ⟨trivial, _, _, h4.g⟩ rfl
  have ar1 : IntKind.i64.wrap ((t.K : Int) - 9) = (t.K : Int) - 9 := wrap_i64 (by omega) (by omega)
  have ar2 : IntKind.i64.wrap ((t.K : Int) - 9 + 1) = (t.K : Int) - 8 := by rw [wrap_i64 (by omega) (by omega)]; omega
  have kp : Keep (all H2) H2 (H2.push ⟨[.string (bs s)], 1, true⟩) := push_keep
  have r3 := r2.all kp
  have hp2 : p < H2.n := r2.2.1
  have hn3 : (H2.push ⟨[.string (bs s)], 1, true⟩).n = H2.n + 1 := push_n
  have g3 : (H2.push ⟨[.string (bs s)], 1, true⟩).get H2.n = some ⟨[.string (bs s)], 1, true⟩ := push_self
  generalize hH3 : H2.push ⟨[.string (bs s)], 1, true⟩ = H3 at *
  obtain ⟨w, H4, ts4, c4, k4, r4, s4, e4, a4⟩ := names_ok r3 (fun t ht => hT t (s2.mem ht)) hb (by have := s2.length_le; omega)
  have hn4 : H3.n ≤ H4.n := k4.1
  have g4 : H4.get H2.n = some ⟨[.string (bs s)], 1, true⟩ := by rw [k4.2 _ ⟨by omega, by omega⟩]; exact g3
  have ck1 : sameBlk H3 H4 (some H2.n) = true := sameBlk_of fun c hc => by injection hc with hc; subst hc; exact k4.2 _ ⟨by omega, by omega⟩
  have hq2 : q < H2.n := h4.qn
  have ck2 : sameBlk H3 H4 (blkOf (ptr q 3)) = true := sameBlk_of fun c hc => by
    have : c = q := by simpa [blkOf] using hc.symm
    subst this; exact k4.2 _ ⟨by omega, h4.pq.symm⟩
  -- the list of names
  have hA : Acc (all H2) H4 1 (.slice (some ⟨H2.n, 0, none⟩) 1 1) 1 [.string (bs s)] := .inr ⟨H2.n, rfl, Nat.lt_irrefl _, by omega, g4, rfl⟩
  have hlen : (namesN ⟨wordsOf b ts2, (mustN 1 [] ⟨wordsOf b ts, false⟩).2.bad⟩).1.length ≤ 8192 := by
    have h1 : ∀ l : List Wd, (namesL l).1.length ≤ l.length := fun l => by
      induction l with
      | nil => simp [namesL]
      | cons t l ih => simp only [namesL]; split <;> simp <;> omega
    have h2 := s2.length_le
    have h3 := h1 (wordsOf b ts2)
    simp only [wordsOf, List.length_map] at h3
    unfold namesN
    split
    · simp
    · simpa [wordsOf] using Nat.le_trans h3 (by omega)
  obtain ⟨v5, H5, b1, b2, b3, b4, b5, _⟩ := hA.appQ (by_ := 16) (by omega) (Sl.addend a4.sl) (a4.len) (by omega)
  have b3' : Keep (But H4 H2.n) H4 H5 := b4.mono fun x hx => ⟨hx.1, fun e => hx.2 (by injection e with e; exact e.symm)⟩
  have hn5 : H4.n ≤ H5.n := b4.1
  have ck3 : sameBlk H4 H5 (blkOf (ptr q 3)) = true := sameBlk_of fun c hc => by
    have : c = q := by simpa [blkOf] using hc.symm
    subst this; exact b3'.2 _ ⟨by omega, by omega⟩
  have h6 : Four H0 H5 p q va vb vc vd f := by
    refine h4.move ⟨by omega, fun x hx => ?_⟩
    have hx1 := hx.1
    rw [b3'.2 x ⟨by omega, by omega⟩, k4.2 x ⟨by omega, hx.2⟩, kp.2 x hx.1]
  have r6 : RdB R H5 p b ts4 (mustN 1 [] ⟨wordsOf b ts, false⟩).2.bad := r4.move (b3'.mono fun x hx => ⟨r4.1.2 x hx, fun e => by have := r2.1.2 x hx; omega⟩) (b3'.2 p ⟨r4.2.1, by omega⟩)
  have k6 : Keep (all H0) H H5 := by
    refine (but_low h6.p0 h0 k1).trans ((but_low h6.p0 (Nat.le_trans h0 k1.1) k2).trans ((kp.mono fun x hx => Nat.lt_of_lt_of_le hx (Nat.le_trans h0 (Nat.le_trans k1.1 k2.1))).trans ((but_low h6.p0 (Nat.le_trans h0 (Nat.le_trans k1.1 (Nat.le_trans k2.1 kp.1))) k4).trans (b3'.mono fun x hx => ?_))))
    have hx' : x < H0.n := hx
    have := Nat.le_trans h0 (Nat.le_trans k1.1 k2.1)
    exact ⟨by omega, by omega⟩
  obtain ⟨o1, o2⟩ := b2.oneC
  have hlt : ∀ x, Lf H0.n p q va vb vc vd x → x < H2.n := fun x hx => by
    rcases hx with hx | rfl | rfl | hx | hx | hx | hx
    · exact Nat.lt_of_lt_of_le hx h4.hn
    · exact h4.pn
    · exact h4.qn
    · exact (h4.ha.at hx).2
    · exact (h4.hb.at hx).2
    · exact (h4.hc.at hx).2
    · exact (h4.hd.at hx).2
  have hrep : Rp.rep (Stay H5 (Lf H0.n p q va vb vc vd)) H5 (precN t.K ⟨wordsOf b ts, false⟩).1 [.int .i64 ((t.K : Int) - 8), v5] := by
    refine rep_pr.2 ⟨v5, by simp [precN], by simp only [precN]; omega, ?_⟩
    have e1 : (precN t.K ⟨wordsOf b ts, false⟩).1.N = s :: (namesN ⟨wordsOf b ts2, (mustN 1 [] ⟨wordsOf b ts, false⟩).2.bad⟩).1 := by
      unfold precN
      rw [v2, must_l l2]
    rw [e1]
    have b2' : Acc (all H2) H5 1 v5 (s :: (namesN ⟨wordsOf b ts2, (mustN 1 [] ⟨wordsOf b ts, false⟩).2.bad⟩).1).length (STRL (s :: (namesN ⟨wordsOf b ts2, (mustN 1 [] ⟨wordsOf b ts, false⟩).2.bad⟩).1)) := by
      have : (s :: (namesN ⟨wordsOf b ts2, (mustN 1 [] ⟨wordsOf b ts, false⟩).2.bad⟩).1).length = 1 + (namesN ⟨wordsOf b ts2, (mustN 1 [] ⟨wordsOf b ts, false⟩).2.bad⟩).1.length := by simp [Nat.add_comm]
      rw [this]
      exact b2
    exact b2'.read fun x h1 h2 => ⟨h2, fun e => h1 (hlt x e)⟩
  obtain ⟨v', H7, c1, c2', c3, c5⟩ := h6.addP hrep (by unfold flen at hfl; omega)
  have r7 := rd_low r6 hRb c5
  obtain ⟨H', j1, j2, j3⟩ := line_J1 hRb r7 (fun t ht => hT t (s2.mem (s4.mem ht))) hb ⟨_, _, _, _, c3⟩
  have hbad : badN t.K f = false := by rcases hk with h | h | h <;> rw [h] <;> rfl
  rw [line_good hbad]
  have e : bodyN t.K ⟨wordsOf b ts, false⟩ f = ({ f with P := f.P ++ [(precN t.K ⟨wordsOf b ts, false⟩).1] }, ⟨wordsOf b ts4, (mustN 1 [] ⟨wordsOf b ts, false⟩).2.bad⟩) := by
    have e1 : bodyN t.K ⟨wordsOf b ts, false⟩ f = ({ f with P := f.P ++ [(precN t.K ⟨wordsOf b ts, false⟩).1] }, (precN t.K ⟨wordsOf b ts, false⟩).2) := by
      rcases hk with h | h | h <;> rw [h] <;> rfl
    rw [e1, ← e4, ← must_l l2]
    rfl
  rw [e]
  refine ⟨H', ?_, k6.trans ((c5.mono fun x hx => .inl hx).trans j2), ((j3.of s4).of s2).of (List.suffix_cons _ _)⟩
  refine Ev.enter (fun n => f18_eq rfl n _ _ _) ?_
  have n5 : ((t.K : Int) == 5) = false := (k_eq' (a := t.K) (k := 5)).trans (decide_eq_false (by omega))
  have n6 : ((t.K : Int) == 6) = false := (k_eq' (a := t.K) (k := 6)).trans (decide_eq_false (by omega))
  have n7 : ((t.K : Int) == 7) = false := (k_eq' (a := t.K) (k := 7)).trans (decide_eq_false (by omega))
  have n8 : ((t.K : Int) == 8) = false := (k_eq' (a := t.K) (k := 8)).trans (decide_eq_false (by omega))
  have n12 : ((t.K : Int) == 12) = false := (k_eq' (a := t.K) (k := 12)).trans (decide_eq_false (by omega))
  have n13 : ((t.K : Int) == 13) = false := (k_eq' (a := t.K) (k := 13)).trans (decide_eq_false (by omega))
  have e5 : ((t.K : Int) < 5) = False := eq_false (by omega)
  simp only [f18, ruA, ruB, ruC, ruE, ruD, lenStr, Int.reduceBEq, Int.reduceBNe, Nat.add_zero, p1, p2, p3, p4, p5, e5, n5, n6, n7, n8, n12, n13]
  refine Ev.callC c2 ?_
  simp only [ruA, ruB, ruC, ruE, ruD, lenStr, Int.reduceBEq, Int.reduceBNe, ld, ar1, ar2, b1s, hH3]
  refine Ev.callC c4 ?_
  simp only [ruA, ruB, ruC, ruE, ruD, lenStr, Int.reduceBEq, Int.reduceBNe, ck1, ck2, ck3, Bool.and_true, b1, bldP0 o1 o2, bldP o1 o2, c1, c2']
  exact j1
theorem line_ok (hk : TG b t) : ∃ H', Cl 18 [ptr p 0, ptr q 0] H (.tuple #[]) H' ∧ Keep (all H0) H H' ∧ LnP H0 R p q b (t :: ts) (lineN ⟨t.K, saysN b t⟩ (wordsOf b ts) f) H' := by
  have h13 := hk.1
  cases hB : badN t.K f with
  | true => exact line_bad hRb hR hT hb hl hf hfl h13 hB
  | false =>
    simp only [badN, Bool.or_eq_false_iff, decide_eq_false_iff_not, Bool.and_eq_false_iff] at hB
    obtain ⟨⟨h1, h2⟩, h3⟩ := hB
    by_cases h5 : t.K = 5
    · exact line_I hRb hR hT hb hl hf hfl h5
    by_cases h6 : t.K = 6
    · exact line_S hRb hR hT hb hl hf hfl h6 (by
        rcases h3 with h3 | h3
        · exact absurd h6 h3
        · simpa using h3)
    by_cases h7 : t.K = 7 ∨ t.K = 8
    · exact line_T hRb hR hT hb hl hf hfl h7
    by_cases h12 : t.K = 12
    · exact line_R hRb hR hT hb hl hf hfl h12
    · exact line_P hRb hR hT hb hl hf hfl (by omega)
end
end Go.Eng

/- The program's Parse. -/
set_option linter.unusedVariables false
set_option linter.unusedSimpArgs false
set_option maxRecDepth 100000
namespace Go.Eng
open Go Go.Proofs

theorem Tks.from {R : Nat → Prop} {H : Heap} {t : Tok} {ts : List Tok} {v : Value} (h : Tks R H (t :: ts) v) : ∃ b o, iAddrS 3 v (.int .i64 0) = some (ptr b o) ∧ R b ∧ ldC (ptr b (o + 1)) H = some (.int .i64 (t.F : Int), H) := by
  obtain ⟨b, o, h1, h2, h3, h4⟩ := Sl.atN h (i := 0) (by simp)
  exact ⟨b, o, h1, h2, h3 1 _ (by omega) (by simp [TOKS, TOK])⟩
theorem AccR.sli {α : Type} [Rp α] {H0 H : Heap} {L : Nat → Prop} {v : Value} {xs : List α} (h : AccR H0 H L v xs) (hL : ∀ q, q < H0.n → L q) : Sli (fun q => H0.n ≤ q ∧ q < H.n) H xs v := by
  obtain ⟨cs, h1, h2⟩ := h
  exact ⟨cs, h1.read fun q a b => ⟨Nat.le_of_not_lt a, b⟩, h2.mono fun q hq => ⟨Nat.le_of_not_lt fun e => hq.2 (hL q e), hq.1⟩⟩
theorem Four.rep {H0 H : Heap} {p q : Nat} {a b c d : Value} {f : Fl} (h : Four H0 H p q a b c d f) : Rp.rep (fun q => H0.n ≤ q ∧ q < H.n) H f [a, .string (bs f.S), b, c, d] := by
  have hL : ∀ z, z < H0.n → Lf H0.n p q a b c d z := fun z hz => .inl hz
  refine rep_fl.2 ⟨a, b, c, d, rfl, ?_, h.hb.sli hL, h.hc.sli hL, h.hd.sli hL⟩
  obtain ⟨cs, h1, h2⟩ := h.ha.sli hL
  rw [rpl_txt.1 h2] at h1
  exact h1
def NOFILE : List Value := [nilS, .string (bs []), nilS, nilS, nilS]
theorem rep_none {R : Nat → Prop} {H : Heap} : Rp.rep R H Fl.none NOFILE := rep_fl.2 ⟨nilS, nilS, nilS, nilS, rfl, Sl.nil, ⟨[], Sl.nil, .nil⟩, ⟨[], Sl.nil, .nil⟩, ⟨[], Sl.nil, .nil⟩⟩
theorem bldF0 {H : Heap} : bld [.slice none 0 0, .string ⟨#[]⟩, .slice none 0 0, .slice none 0 0, .slice none 0 0] [] H = some (.agg NOFILE.toArray, H) := by kernel_rfl
theorem st5 {H : Heap} {q : Nat} {cs ds : List Value} (h : H.get q = some ⟨cs, 1, true⟩) (hc : cs.length = 5) (hd : ds.length = 5) (ha : ds.all Eng.oneC = true) : stV 5 (ptr q 0) (.agg ds.toArray) H = some (undef, H.upd q (some ⟨ds, 1, true⟩)) := by
  have e : splice cs 0 ds = ds := by simp [splice, hc, hd]
  have h' : ds.all Value.oneCell' = true := ha
  simp only [stV, h, Value.cells, e]
  rw [if_pos]
  exact ⟨by simp [hd], h', by omega, Blk.w_mk⟩
theorem ld5 {H : Heap} {q : Nat} {ds : List Value} (h : H.get q = some ⟨ds, 1, true⟩) (hd : ds.length = 5) : Eng.ldA 5 (ptr q 0) H = some (.agg ds.toArray, H) := Box.all (R := fun _ => True) ⟨trivial, _, _, h⟩ hd.symm
theorem resM3 {a b c : Value} : resM [some a, some b, some c] = some [a, b, c] := nr _
theorem one3 {a b c : Value} : one [a, b, c] = .tuple #[a, b, c] := nr _
def headF (ts : List Tok) (n : Nat) : Int := match ts with | t :: _ => (t.F : Int) | [] => (n : Int)
theorem place_suf {all_ ts : List Tok} {n : Nat} (h : ts <:+ all_) : placeN all_ n ts.length = headF ts n := by
  obtain ⟨pre, rfl⟩ := h
  unfold placeN
  rw [show (pre ++ ts).length - ts.length = pre.length by simp, List.drop_left]
  cases ts <;> rfl
theorem flen_line (t : Wd) (l : List Wd) (f : Fl) : flen (lineN t l f).1 + (lineN t l f).2.l.length ≤ flen f + (l.length + 1) := by
  unfold lineN
  split
  · simp
  · have h1 := body_len t.K ⟨l, false⟩ f
    have h2 := must_len 4 [59] (bodyN t.K ⟨l, false⟩ f).2
    have h3 : flen (bodyN t.K ⟨l, false⟩ f).1 ≤ flen f + 1 := by
      unfold bodyN flen
      split
      · simp; omega
      split
      · simp
      split
      · simp; omega
      split <;> simp <;> omega
    simp only at h1 ⊢
    omega
theorem all_one {a b c d : Value} {s : ByteArray} (h1 : Eng.oneC a = true) (h2 : Eng.oneC b = true) (h3 : Eng.oneC c = true) (h4 : Eng.oneC d = true) : ([a, .string s, b, c, d] : List Value).all Eng.oneC = true := by
  have : Eng.oneC (.string s) = true := rfl
  simp only [List.all_cons, List.all_nil, Bool.and_true, h1, h2, h3, h4, this]
section
variable {R : Nat → Prop} {H0 : Heap} {p q x : Nat} {b : List UInt8} {v : Value} {all_ : List Tok}
/-- What is answered lies there. -/
def Ans (H0 H : Heap) (x : Nat) (f : Fl) (cs : List Value) : Prop := Keep (But H0 x) H0 H ∧ Rp.rep (all H) H f cs
theorem parse_end {H : Heap} {ts : List Tok} {bad : Bool} {f : Fl} (hv : lenS v = some (.int .i64 (b.length : Int))) (hx : H0.get x = some ⟨NOFILE, 1, true⟩) (xn : x < H0.n) (hRx : ¬ R x) (hK : Keep (all H0) H0 H) (hR : RdB R H p b ts bad) (hf : FlB H0 H p q f) (hs : ts <:+ all_) (h : ts = [] ∨ bad = true) :
    ∃ cs H', Ev (fun n m => f8_L0 real (AC n) n m v (ptr x 0) (ptr q 0) (ptr p 0) H) (.tuple #[.agg cs.toArray, .int .i64 (saidN all_ b.length (f, ⟨wordsOf b ts, bad⟩)).2.1, .int .i64 (saidN all_ b.length (f, ⟨wordsOf b ts, bad⟩)).2.2], H') ∧ Ans H0 H' x (saidN all_ b.length (f, ⟨wordsOf b ts, bad⟩)).1 cs := by
  obtain ⟨hl, hn, vt, vl, g1, g2, g3⟩ := id hR
  obtain ⟨va, vb, vc, vd, h4⟩ := hf
  have ll : ldC (ptr p 1) H = some (vl, H) := Box.ld (R := fun _ => True) ⟨trivial, _, _, g1⟩ rfl
  have lb : ldC (ptr p 2) H = some (.bool bad, H) := Box.ld (R := fun _ => True) ⟨trivial, _, _, g1⟩ rfl
  have e0 : lenS vl = some (.int .i64 (ts.length : Int)) := Sl.lenS g3
  have gx : H.get x = some ⟨NOFILE, 1, true⟩ := by rw [hK.2 x xn]; exact hx
  have s1 : stV 5 (ptr x 0) (.agg NOFILE.toArray) H = some (undef, H.upd x (some ⟨NOFILE, 1, true⟩)) := st5 gx rfl rfl rfl
  have l1 : Eng.ldA 5 (ptr x 0) (H.upd x (some ⟨NOFILE, 1, true⟩)) = some (.agg NOFILE.toArray, H.upd x (some ⟨NOFILE, 1, true⟩)) := ld5 upd_self rfl
  have kx : ∀ {y : Option Blk}, Keep (But H0 x) H0 (H.upd x y) := fun {y} => (hK.mono fun z hz => hz.1).trans (upd_butQ.mono fun z hz => ⟨Nat.lt_of_lt_of_le hz.1 hK.1, hz.2⟩)
  have hpx : p ≠ x := by have := h4.p0; omega
  have pl := place_suf (n := b.length) hs
  have ww : (wordsOf b ts).length = ts.length := by simp [wordsOf]
  cases ts with
  | nil =>
    have e1 : ((([] : List Tok).length : Int) > 0) = False := by simp
    cases bad with
    | false =>
      refine ⟨[va, .string (bs f.S), vb, vc, vd], H.upd x (some ⟨[va, .string (bs f.S), vb, vc, vd], 1, true⟩), ?_, kx, ?_⟩
      · have ha := all_one (s := bs f.S) h4.ha.oneC.1 h4.hb.oneC.1 h4.hc.oneC.1 h4.hd.oneC.1
        have l0 : Eng.ldA 5 (ptr q 0) H = some (.agg [va, .string (bs f.S), vb, vc, vd].toArray, H) := ld5 h4.g rfl
        have s2 := st5 (ds := [va, .string (bs f.S), vb, vc, vd]) gx rfl rfl ha
        have l2 : Eng.ldA 5 (ptr x 0) (H.upd x (some ⟨[va, .string (bs f.S), vb, vc, vd], 1, true⟩)) = some (.agg [va, .string (bs f.S), vb, vc, vd].toArray, _) := ld5 upd_self rfl
        refine Ev.step (fun n m => f8_L0.eq_2 _ _ _ _ _ _ _ _ _) ?_
        simp only [ruA, ruB, ruC, ruE, ruD, lenStr, Int.reduceBEq, Int.reduceBNe, ll, e0, e1, lb, l0, s2, l2, Option.map_some, resM3, one3]
        exact Ev.pure _
      · show Rp.rep _ _ f _
        have ku : Keep (fun z => H0.n ≤ z ∧ z < H.n) H (H.upd x (some ⟨[va, .string (bs f.S), vb, vc, vd], 1, true⟩)) := upd_butQ.mono fun z hz => ⟨hz.2, by have := hz.1; omega⟩
        exact Rp.mono (Rp.keep h4.rep ku) fun z hz => hz.2
    | true =>
      have es : saidN all_ b.length (f, ⟨wordsOf b [], true⟩) = (Fl.none, (b.length : Int), 150) := by
        unfold saidN
        simp only [if_true, ww]
        rw [pl]; rfl
      rw [es]
      refine ⟨NOFILE, H.upd x (some ⟨NOFILE, 1, true⟩), ?_, kx, rep_none⟩
      refine Ev.step (fun n m => f8_L0.eq_2 _ _ _ _ _ _ _ _ _) ?_
      simp only [ruA, ruB, ruC, ruE, ruD, lenStr, Int.reduceBEq, Int.reduceBNe, ll, e0, e1, lb, bldF0, hv, s1, l1, Option.map_some, resM3, one3]
      exact Ev.pure _
  | cons t r =>
    obtain rfl : bad = true := by simpa using h
    have e1 : (((t :: r).length : Int) > 0) = True := eq_true (by simp only [List.length_cons]; omega)
    have es : saidN all_ b.length (f, ⟨wordsOf b (t :: r), true⟩) = (Fl.none, (t.F : Int), 150) := by
      unfold saidN
      simp only [if_true, ww]
      rw [pl]; rfl
    rw [es]
    obtain ⟨z, o, a1, a2, a3⟩ := Tks.from g3
    have ck1 : sameBlk H (H.upd x (some ⟨NOFILE, 1, true⟩)) (blkOf (ptr z (o + 1))) = true := sameBlk_of fun c hc => by
      have : c = z := by simpa [blkOf] using hc.symm
      subst this; exact upd_ne fun e => hRx (by rw [← e]; exact a2)
    have ck2 : sameBlk H (H.upd x (some ⟨NOFILE, 1, true⟩)) (blkOf (ptr p 1)) = true := sameBlk_of fun c hc => by
      have : c = p := by simpa [blkOf] using hc.symm
      subst this; exact upd_ne hpx
    refine ⟨NOFILE, H.upd x (some ⟨NOFILE, 1, true⟩), ?_, kx, rep_none⟩
    refine Ev.step (fun n m => f8_L0.eq_2 _ _ _ _ _ _ _ _ _) ?_
    simp only [ruA, ruB, ruC, ruE, ruD, lenStr, Int.reduceBEq, Int.reduceBNe, ll, e0, e1, lb, bldF0, a1, a3, s1, l1, ck1, ck2, Bool.and_true, Option.map_some, resM3, one3]
    exact Ev.pure _
theorem parse_loop (hRb : Rb R H0) (hb : b.length ≤ 8192) (hv : lenS v = some (.int .i64 (b.length : Int))) (hx : H0.get x = some ⟨NOFILE, 1, true⟩) (xn : x < H0.n) (hRx : ¬ R x) : ∀ (n : Nat) (ts : List Tok) (bad : Bool) (H : Heap) (f : Fl), ts.length ≤ n → flen f + ts.length ≤ 8192 → (∀ t ∈ ts, TG b t) → ts <:+ all_ →
    Keep (all H0) H0 H → RdB R H p b ts bad → FlB H0 H p q f →
    ∃ cs H', Ev (fun n m => f8_L0 real (AC n) n m v (ptr x 0) (ptr q 0) (ptr p 0) H) (.tuple #[.agg cs.toArray, .int .i64 (saidN all_ b.length (linesN n ⟨wordsOf b ts, bad⟩ f)).2.1, .int .i64 (saidN all_ b.length (linesN n ⟨wordsOf b ts, bad⟩ f)).2.2], H') ∧ Ans H0 H' x (saidN all_ b.length (linesN n ⟨wordsOf b ts, bad⟩ f)).1 cs := by
  intro n
  induction n with
  | zero =>
    intro ts bad H f hn hfl hT hs hK hR hf
    exact parse_end hv hx xn hRx hK hR hf hs (.inl (List.length_eq_zero_iff.1 (by omega)))
  | succ n ih =>
    intro ts bad H f hn hfl hT hs hK hR hf
    cases ts with
    | nil => exact parse_end hv hx xn hRx hK hR hf hs (.inl rfl)
    | cons t r =>
      cases bad with
      | true => exact parse_end hv hx xn hRx hK hR hf hs (.inr rfl)
      | false =>
        simp only [List.length_cons] at hn hfl
        obtain ⟨H1, c1, k1, ts1, r1, l1, s1, f1, _⟩ := line_ok hRb hR (fun u hu => hT u (by simp [hu])) hb (by omega) hf (by omega) (hT t (by simp))
        have el : linesN (n + 1) ⟨wordsOf b (t :: r), false⟩ f = linesN n (lineN ⟨t.K, saysN b t⟩ (wordsOf b r) f).2 (lineN ⟨t.K, saysN b t⟩ (wordsOf b r) f).1 := rfl
        have fl := flen_line ⟨t.K, saysN b t⟩ (wordsOf b r) f
        have ll := line_len ⟨t.K, saysN b t⟩ (wordsOf b r) f
        have ww : ∀ ts : List Tok, (wordsOf b ts).length = ts.length := fun ts => by simp [wordsOf]
        generalize lineN ⟨t.K, saysN b t⟩ (wordsOf b r) f = X at *
        obtain ⟨f', l', bad'⟩ := X
        simp only at r1 l1 f1 fl ll
        subst l1
        rw [ww, ww] at fl
        have K1 : Keep (all H0) H0 H1 := hK.trans k1
        have fin : ∃ cs H', Ev (fun n m => f8_L0 real (AC n) n m v (ptr x 0) (ptr q 0) (ptr p 0) H1) (.tuple #[.agg cs.toArray, .int .i64 (saidN all_ b.length (linesN n ⟨wordsOf b ts1, bad'⟩ f')).2.1, .int .i64 (saidN all_ b.length (linesN n ⟨wordsOf b ts1, bad'⟩ f')).2.2], H') ∧ Ans H0 H' x (saidN all_ b.length (linesN n ⟨wordsOf b ts1, bad'⟩ f')).1 cs := by
          cases bad' with
          | true =>
            have := parse_end hv hx xn hRx K1 r1 f1 (s1.trans hs) (.inr rfl)
            rw [← lines_bad (n := n) (r := ⟨wordsOf b ts1, true⟩) (f := f') rfl] at this
            exact this
          | false =>
            rcases ll with ll | ll
            · rw [ww, ww] at ll
              exact ih ts1 false H1 f' (by omega) (by omega) (fun u hu => hT u (s1.mem hu)) (s1.trans hs) K1 r1 f1
            · cases ll.1
        obtain ⟨cs, H', q1, q2⟩ := fin
        rw [el]
        refine ⟨cs, H', ?_, q2⟩
        obtain ⟨hl, hnn, vt, vl, g1, g2, g3⟩ := id hR
        have ll : ldC (ptr p 1) H = some (vl, H) := Box.ld (R := fun _ => True) ⟨trivial, _, _, g1⟩ rfl
        have lb : ldC (ptr p 2) H = some (.bool false, H) := Box.ld (R := fun _ => True) ⟨trivial, _, _, g1⟩ rfl
        have e0 : lenS vl = some (.int .i64 ((t :: r).length : Int)) := Sl.lenS g3
        have e1 : (((t :: r).length : Int) > 0) = True := eq_true (by simp only [List.length_cons]; omega)
        refine Ev.step (fun n m => f8_L0.eq_2 _ _ _ _ _ _ _ _ _) ?_
        simp only [ruA, ruB, ruC, ruE, ruD, lenStr, Int.reduceBEq, Int.reduceBNe, ll, e0, e1, lb]
        refine Ev.callC c1 ?_
        exact q1
end
theorem newF {H : Heap} : newV [.slice none 0 0, .string ⟨#[]⟩, .slice none 0 0, .slice none 0 0, .slice none 0 0] H = some (ptr H.n 0, H.push ⟨NOFILE, 1, true⟩) := newV_box rfl
theorem bldRd {H : Heap} {v w : Value} (v1 : Eng.oneC v = true) (v2 : v.cells = #[v]) (w1 : Eng.oneC w = true) (w2 : w.cells = #[w]) : bld [.slice none 0 0, .slice none 0 0, .bool false] [(0, 1, v), (1, 1, w)] H = some (.agg #[v, w, .bool false], H) := by
  simp [bld, fillC, splice, v2, w2]
/-- What the bytes of a file say. -/
theorem parse_ok {H : Heap} {b : List UInt8} {v : Value} (hL : Lg H) (hs : SlU (all H) H b v) (hb : b.length < 9223372036854775807) :
    ∃ cs H', Cl 8 [v] H (.tuple #[.agg cs.toArray, .int .i64 (gparse b).2.1, .int .i64 (gparse b).2.2]) H' ∧ Keep (all H) H H' ∧ Rp.rep (all H') H' (gparse b).1 cs := by
  have kp : Keep (all H) H (H.push ⟨NOFILE, 1, true⟩) := push_keep
  have g1 : (H.push ⟨NOFILE, 1, true⟩).get H.n = some ⟨NOFILE, 1, true⟩ := push_self
  have n1 : (H.push ⟨NOFILE, 1, true⟩).n = H.n + 1 := push_n
  have nf := newF (H := H)
  generalize hH1 : H.push ⟨NOFILE, 1, true⟩ = H1 at *
  obtain ⟨w, H2, c2, a2, k2⟩ := wcut_ok (Box.up hL kp) (hs.up kp) hb
  have g2 : H2.get H.n = some ⟨NOFILE, 1, true⟩ := by rw [k2.2 _ (by show H.n < H1.n; omega)]; exact g1
  have n2 : H1.n ≤ H2.n := k2.1
  have K2 : Keep (all H) H H2 := kp.tr k2
  -- refused at once
  have out : ∀ {at_ e : Int}, (e == 0) = false → (cutR b).2.1 = at_ → (cutR b).2.2 = e → ∃ H', Cl 8 [v] H (.tuple #[.agg NOFILE.toArray, .int .i64 at_, .int .i64 e]) H' ∧ Keep (all H) H H' := by
    intro at_ e he ha hc
    rw [ha, hc] at c2
    have s1 : stV 5 (ptr H.n 0) (.agg NOFILE.toArray) H2 = some (undef, H2.upd H.n (some ⟨NOFILE, 1, true⟩)) := st5 g2 rfl rfl rfl
    have l1 : Eng.ldA 5 (ptr H.n 0) (H2.upd H.n (some ⟨NOFILE, 1, true⟩)) = some (.agg NOFILE.toArray, H2.upd H.n (some ⟨NOFILE, 1, true⟩)) := ld5 upd_self rfl
    refine ⟨H2.upd H.n (some ⟨NOFILE, 1, true⟩), ?_, K2.trans (upd_butQ.mono fun z hz => ⟨by have : z < H.n := hz; omega, by have : z < H.n := hz; omega⟩)⟩
    refine Ev.enter (fun n => f8_eq rfl n _ _) ?_
    simp only [f8, ruA, ruB, ruC, ruE, ruD, lenStr, Int.reduceBEq, Int.reduceBNe, nf]
    refine Ev.callC c2 ?_
    have he' : (e != 0) = true := by rw [bne, he]; rfl
    simp only [ruA, ruB, ruC, ruE, ruD, lenStr, Int.reduceBEq, Int.reduceBNe, he', bldF0, s1, l1, Option.map_some, resM3, one3]
    exact Ev.pure _
  by_cases h8 : 8192 < b.length
  · have e : gparse b = (Fl.none, 0, 5) := by unfold gparse; rw [if_pos h8]
    have e2 : cutR b = ([], 0, 5) := by unfold cutR; rw [if_pos h8]
    obtain ⟨H', q1, q2⟩ := out (at_ := 0) (e := 5) rfl (by rw [e2]) (by rw [e2])
    rw [e]
    exact ⟨NOFILE, H', q1, q2, rep_none⟩
  · have hb8 : b.length ≤ 8192 := by omega
    have e2 : cutR b = cutG [] (cutN 0 b) := by unfold cutR; rw [if_neg h8]
    cases hc : (cutN 0 b).2 with
    | some i =>
      have e : gparse b = (Fl.none, (i : Int), 140) := by unfold gparse; rw [if_neg h8, hc]
      obtain ⟨H', q1, q2⟩ := out (at_ := (i : Int)) (e := 140) rfl (by rw [e2]; simp [cutG, hc]) (by rw [e2]; simp [cutG, hc])
      rw [e]
      exact ⟨NOFILE, H', q1, q2, rep_none⟩
    | none =>
      have e3 : cutR b = ((cutN 0 b).1, 0, 0) := by rw [e2]; simp [cutG, hc]
      rw [gparse_ok hb8 hc]
      rw [e3] at c2 a2
      simp only at c2 a2
      have hlen := cutN_len b 0
      have kq : Keep (all H2) H2 (H2.push ⟨NOFILE, 1, true⟩) := push_keep
      have gq : (H2.push ⟨NOFILE, 1, true⟩).get H2.n = some ⟨NOFILE, 1, true⟩ := push_self
      have nq : (H2.push ⟨NOFILE, 1, true⟩).n = H2.n + 1 := push_n
      have nf2 := newF (H := H2)
      generalize hH3 : H2.push ⟨NOFILE, 1, true⟩ = H3 at *
      obtain ⟨v1, v2⟩ := Sl.oneC hs
      obtain ⟨w1, w2⟩ := a2.oneC
      have hbd := bldRd (H := H3) v1 v2 w1 w2
      have nr : newV (Value.cells (.agg #[v, w, .bool false])).toList H3 = some (ptr H3.n 0, H3.push ⟨[v, w, .bool false], 1, true⟩) := newA (cs := [v, w, .bool false]) (by simp [v1, w1]; rfl)
      have kr : Keep (all H3) H3 (H3.push ⟨[v, w, .bool false], 1, true⟩) := push_keep
      have gr : (H3.push ⟨[v, w, .bool false], 1, true⟩).get H3.n = some ⟨[v, w, .bool false], 1, true⟩ := push_self
      have nr' : (H3.push ⟨[v, w, .bool false], 1, true⟩).n = H3.n + 1 := push_n
      generalize hH4 : H3.push ⟨[v, w, .bool false], 1, true⟩ = H4 at *
      have K4 : Keep (all H2) H2 H4 := kq.tr kr
      have hR4 : RdB (But H2 H.n) H4 H3.n b (cutN 0 b).1 false := by
        refine ⟨⟨fun h => by have := h.1; omega, fun z hz => by have := hz.1; omega⟩, by omega, v, w, gr, ?_, ?_⟩
        · exact Sl.mono (Sl.keep hs (K2.trans (K4.mono fun z hz => by have : z < H.n := hz; show z < H2.n; omega))) fun z hz => by
            have : z < H.n := hz
            exact ⟨by omega, by omega⟩
        · exact Sl.keep (a2.read (R' := But H2 H.n) fun z h1 h2 => ⟨h2, fun e => h1 (by show z < H1.n; omega)⟩) (K4.mono fun z hz => hz.1)
      obtain ⟨cs, H', q1, q2, q3⟩ := parse_loop (all_ := (cutN 0 b).1) (q := H2.n) (fun z hz => hz.1) hb8 (SlU.len ((hs.up K2).keep K4)) g2 (by omega) (fun h => h.2 rfl) (cutN 0 b).1.length (cutN 0 b).1 false H4 Fl.none (Nat.le_refl _) (by simp [flen, Fl.none]; omega) tg_cut (List.suffix_refl _) K4 hR4 ⟨nilS, nilS, nilS, nilS, Four.new (by rw [kr.2 _ (by show H2.n < H3.n; omega)]; exact gq) (Nat.le_refl _) (by omega) (by omega) (by omega) (by omega)⟩
      have er : linesN (cutN 0 b).1.length ⟨wordsOf b (cutN 0 b).1, false⟩ Fl.none = readN (wordsOf b (cutN 0 b).1) := by unfold readN; simp [wordsOf]
      rw [er] at q1 q3
      refine ⟨cs, H', ?_, K2.trans (q2.mono fun z hz => ⟨Nat.lt_of_lt_of_le hz K2.1, by have : z < H.n := hz; omega⟩), q3⟩
      refine Ev.enter (fun n => f8_eq rfl n _ _) ?_
      simp only [f8, ruA, ruB, ruC, ruE, ruD, lenStr, Int.reduceBEq, Int.reduceBNe, nf]
      refine Ev.callC c2 ?_
      have e00 : ((0 : Int) != 0) = false := rfl
      simp only [ruA, ruB, ruC, ruE, ruD, lenStr, Int.reduceBEq, Int.reduceBNe, e00, nf2, hbd, nr]
      exact q1.loop
end Go.Eng
