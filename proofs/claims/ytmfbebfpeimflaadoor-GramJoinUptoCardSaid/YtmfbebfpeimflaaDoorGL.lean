/- The program's reader. -/
import Derived.Test.YtmfbebfpeimflaaDoorGK
import Derived.Test.YtmfbebfpeimflaaDoorGR
import Derived.Test.YtmfbebfpeimflaaDoorGP
set_option linter.unusedVariables false
set_option linter.unusedSimpArgs false
set_option maxRecDepth 100000
namespace Go.Eng
open Go Go.Proofs

/-- What is known of a word. -/
def TG (b : List UInt8) (t : Tok) : Prop := t.K ≤ 13 ∧ t.F < t.T ∧ t.T ≤ b.length ∧ ((t.K = 2 ∨ t.K = 3) → t.F + 2 ≤ t.T)
theorem tg_cut {b : List UInt8} : ∀ t ∈ (cutN 0 b).1, TG b t := by
  intro t ht
  obtain ⟨_, h2, h3, h4⟩ := cut_wordIs b 0 t ht
  obtain ⟨_, k0, _, k2, k3, _, _⟩ := h4.facts
  rw [Nat.sub_zero] at k2 k3
  have hlen : ((b.drop t.F).take (t.T - t.F)).length = t.T - t.F := by simp only [List.length_take, List.length_drop]; omega
  rw [hlen] at k2 k3
  exact ⟨k0, h2, by omega, fun h => by
    rcases h with h | h
    · have := (k2 h).1; omega
    · have := (k3 h).1; omega⟩
/-- A reader: its words and its text stand in R; it is written itself. -/
def RdB (R : Nat → Prop) (H : Heap) (p : Nat) (b : List UInt8) (ts : List Tok) (bad : Bool) : Prop :=
  (¬ R p ∧ Rb R H) ∧ p < H.n ∧ ∃ vt vl, H.get p = some ⟨[vt, vl, .bool bad], 1, true⟩ ∧ SlU R H b vt ∧ Tks R H ts vl
/-- All but one block. -/
abbrev But (H : Heap) (p : Nat) : Nat → Prop := fun q => q < H.n ∧ q ≠ p
theorem RdB.move {R : Nat → Prop} {H H' : Heap} {p : Nat} {b : List UInt8} {ts : List Tok} {bad : Bool} (h : RdB R H p b ts bad) (hk : Keep R H H') (hp : H'.get p = H.get p) : RdB R H' p b ts bad := by
  obtain ⟨h0, hn, vt, vl, h1, h2, h3⟩ := h
  exact ⟨⟨h0.1, h0.2.mono hk.1⟩, Nat.lt_of_lt_of_le hn hk.1, vt, vl, by rw [hp]; exact h1, Sl.keep h2 hk, Sl.keep h3 hk⟩
theorem RdB.push {R : Nat → Prop} {H : Heap} {p : Nat} {b : List UInt8} {ts : List Tok} {bad : Bool} {blk : Blk} (h : RdB R H p b ts bad) : RdB R (H.push blk) p b ts bad :=
  h.move (Keep.push h.1.2) (push_lt h.2.1)
theorem newA {H : Heap} {cs : List Value} (h : cs.all oneC = true) : newV (Value.cells (.agg cs.toArray)).toList H = some (ptr H.n 0, H.push ⟨cs, 1, true⟩) := newV_box h
theorem slc_own {l : List UInt8} (h : 2 ≤ l.length) : slcStr (.string (bs l)) (some (.int .i64 1)) (some (.int .i64 ((l.length - 1 : Nat) : Int))) = some (.string (bs ((l.take (l.length - 1)).drop 1))) := bs_part (l := l) (i := 1) (j := l.length - 1) (by omega) (by omega)
theorem says_two {b : List UInt8} {t : Tok} (ht : TG b t) (hk : t.K = 2 ∨ t.K = 3) : ((((b.take t.T).drop t.F).take (((b.take t.T).drop t.F).length - 1)).drop 1) = saysN b t ∧ 2 ≤ ((b.take t.T).drop t.F).length := by
  obtain ⟨_, h2, h3, h4⟩ := ht
  have hlen : ((b.take t.T).drop t.F).length = t.T - t.F := by simp only [List.length_take, List.length_drop]; omega
  have := h4 hk
  refine ⟨?_, by omega⟩
  unfold saysN
  rw [if_pos hk, hlen, List.drop_take, List.drop_take, List.drop_take, List.take_take, List.drop_take, List.drop_drop]
  congr 1
  omega
theorem spelled_ok {L : Nat → Prop} {H : Heap} {p : Nat} {b : List UInt8} {ts : List Tok} {bad : Bool} (h : RdB L H p b ts bad) {t : Tok} (ht : TG b t) (hb : b.length ≤ 8192) :
    Cl 84 [ptr p 0, tokV t] H (.string (bs (saysN b t))) (H.push ⟨TOK t, 1, true⟩) := by
  obtain ⟨_, _, vt, vl, g1, g2, g3⟩ := RdB.push (blk := ⟨TOK t, 1, true⟩) h
  have hnew : newV (Value.cells (tokV t)).toList H = some (ptr H.n 0, H.push ⟨TOK t, 1, true⟩) := newA (cs := TOK t) rfl
  have l0 : ldC (ptr H.n 0) (H.push ⟨TOK t, 1, true⟩) = some (.int .i64 (t.K : Int), H.push ⟨TOK t, 1, true⟩) := push_boxA.ld rfl
  have l1 : ldC (ptr H.n 1) (H.push ⟨TOK t, 1, true⟩) = some (.int .i64 (t.F : Int), H.push ⟨TOK t, 1, true⟩) := push_boxA.ld rfl
  have l2 : ldC (ptr H.n 2) (H.push ⟨TOK t, 1, true⟩) = some (.int .i64 (t.T : Int), H.push ⟨TOK t, 1, true⟩) := push_boxA.ld rfl
  have lt : ldC (ptr p 0) (H.push ⟨TOK t, 1, true⟩) = some (vt, H.push ⟨TOK t, 1, true⟩) := Box.ld (R := fun _ => True) ⟨trivial, _, _, g1⟩ rfl
  obtain ⟨u, u1, u2⟩ := g2.part (k := .i64) (k' := .i64) (i := t.F) (j := t.T) (by have := ht.2.1; omega) ht.2.2.1
  generalize H.push ⟨TOK t, 1, true⟩ = H1 at *
  have ts := toStr_U u2
  refine Ev.enter (fun n => f84_eq rfl n _ _ _) ?_
  by_cases hk : t.K = 2 ∨ t.K = 3
  · obtain ⟨s1, s2⟩ := says_two ht hk
    have hsub : IntKind.i64.wrap ((((b.take t.T).drop t.F).length : Int) - 1) = ((((b.take t.T).drop t.F).length - 1 : Nat) : Int) := sub_len (a := ((b.take t.T).drop t.F).length) (b := 1) (by omega) (by simp only [List.length_take, List.length_drop]; omega)
    rw [← s1]
    generalize (b.take t.T).drop t.F = own at *
    rcases hk with hk | hk
    · have e2 : (((t.K : Nat) : Int) == 2) = true := by rw [hk]; rfl
      simp only [f84, ruA, ruB, ruC, ruE, ruD, lenStr, Int.reduceBEq, Int.reduceBNe, hnew, lt, l0, l1, l2, u1, ts, e2, bs_size, hsub, slc_own s2]
      exact Ev.pure _
    · have e2 : (((t.K : Nat) : Int) == 2) = false := by rw [hk]; rfl
      have e3 : (((t.K : Nat) : Int) == 3) = true := by rw [hk]; rfl
      simp only [f84, ruA, ruB, ruC, ruE, ruD, lenStr, Int.reduceBEq, Int.reduceBNe, hnew, lt, l0, l1, l2, u1, ts, e2, e3, bs_size, hsub, slc_own s2]
      exact Ev.pure _
  · have e2 : (((t.K : Nat) : Int) == 2) = false := by
      rw [Bool.eq_false_iff]; intro h; have h' : (t.K : Int) = 2 := by simpa using h
      omega
    have e3 : (((t.K : Nat) : Int) == 3) = false := by
      rw [Bool.eq_false_iff]; intro h; have h' : (t.K : Int) = 3 := by simpa using h
      omega
    have es : saysN b t = (b.take t.T).drop t.F := by unfold saysN; rw [if_neg hk]
    rw [es]
    simp only [f84, ruA, ruB, ruC, ruE, ruD, lenStr, Int.reduceBEq, Int.reduceBNe, hnew, lt, l0, l1, l2, u1, ts, e2, e3]
    exact Ev.pure _
/-- The rest of a list. -/
theorem Sl.rest {R : Nat → Prop} {H : Heap} {sz n : Nat} {v : Value} {cs : List Value} (h : Sl R H sz v (n + 1) cs) : ∃ v', slcS sz v (some (.int .i64 1)) none none = some v' ∧ Sl R H sz v' n (cs.drop sz) := by
  rcases h with ⟨rfl, h, rfl⟩ | ⟨b, o, sp, cap, rfl, h2, h, rfl⟩ | ⟨b, o, sp, cap, blk, rfl, h2, h3, h4, h5, rfl⟩
  · cases h
  · cases h
  · have hm : (n + 1) * sz = n * sz + sz := Nat.succ_mul n sz
    refine ⟨.slice (some ⟨b, o + 1 * sz, sp⟩) n (cap - 1), ?_, .inr (.inr ⟨b, o + 1 * sz, sp, cap - 1, blk, rfl, h2, h3, by omega, by omega, ?_⟩)⟩
    · have e : slcS sz (.slice (some ⟨b, o, sp⟩) (n + 1) cap) (some (.int .i64 ((1 : Nat) : Int))) none none = some (.slice (some ⟨b, o + 1 * sz, sp⟩) n (cap - 1)) := by
        simp only [slcS, bound]
        rw [if_pos (by omega)]
        simp only [Int.toNat_natCast, Option.isNone_none, Bool.true_or, and_true]
        rw [if_pos (by omega)]
        simp
      exact e
    · simp only [cut, List.drop_take, List.drop_drop, Nat.one_mul, hm, Nat.add_sub_cancel]
theorem Tks.rest {R : Nat → Prop} {H : Heap} {t : Tok} {ts : List Tok} {v : Value} (h : Tks R H (t :: ts) v) : ∃ v', slcS 3 v (some (.int .i64 1)) none none = some v' ∧ Tks R H ts v' := by
  obtain ⟨v', h1, h2⟩ := Sl.rest h
  exact ⟨v', h1, h2⟩
def nextS (b : List UInt8) (k : Nat) (g : List UInt8) (ts : List Tok) (bad : Bool) : List UInt8 × Bool :=
  if bad then ([], false) else match ts with
    | [] => ([], false)
    | t :: _ => if t.K = k then (saysN b t, decide (k ≠ 4) || decide (saysN b t = g)) else ([], false)
theorem nextS_is {b : List UInt8} {k : Nat} {g : List UInt8} {ts : List Tok} {bad : Bool} : (nextS b k g ts bad).2 = isN k g ⟨wordsOf b ts, bad⟩ := by
  unfold nextS isN
  cases bad with
  | true => rfl
  | false =>
    cases ts with
    | nil => rfl
    | cons t ts =>
      simp only [wordsOf, List.map_cons, Bool.not_false, Bool.true_and, Bool.false_eq_true, if_false]
      by_cases h : t.K = k
      · rw [if_pos h, decide_eq_true h, Bool.true_and]
      · rw [if_neg h, decide_eq_false h, Bool.false_and]
theorem nextS_head {b : List UInt8} {k : Nat} {g : List UInt8} {ts : List Tok} {bad : Bool} (h : (nextS b k g ts bad).2 = true) : ∃ t r, ts = t :: r ∧ bad = false ∧ (nextS b k g ts bad).1 = saysN b t := by
  unfold nextS at h ⊢
  cases bad with
  | true => cases h
  | false =>
    cases ts with
    | nil => cases h
    | cons t r =>
      refine ⟨t, r, rfl, rfl, ?_⟩
      simp only [Bool.false_eq_true, if_false] at h ⊢
      split
      · rfl
      · rename_i hk; rw [if_neg hk] at h; cases h
section
variable {L : Nat → Prop} {H : Heap} {p : Nat} {b : List UInt8} {ts : List Tok} {bad : Bool}
theorem k_eq {a k : Nat} : ((a : Int) != (k : Int)) = !decide (a = k) := by
  rw [bne]
  congr 1
  rw [Bool.eq_iff_iff]
  simp only [beq_iff_eq, decide_eq_true_eq]
  omega
theorem k_eq' {a k : Nat} : ((a : Int) == (k : Int)) = decide (a = k) := by
  rw [Bool.eq_iff_iff]
  simp only [beq_iff_eq, decide_eq_true_eq]
  omega
theorem next_ok (h : RdB L H p b ts bad) (hT : ∀ t ∈ ts, TG b t) (hb : b.length ≤ 8192) (k : Nat) (g : List UInt8) :
    ∃ H', Cl 76 [ptr p 0, .int .i64 (k : Int), .string (bs g)] H (.tuple #[.string (bs (nextS b k g ts bad).1), .bool (nextS b k g ts bad).2]) H' ∧ Keep (all H) H H' := by
  obtain ⟨hl, hn, vt, vl, g1, g2, g3⟩ := id h
  have lb : ldC (ptr p 2) H = some (.bool bad, H) := Box.ld (R := fun _ => True) ⟨trivial, _, _, g1⟩ rfl
  have ll : ldC (ptr p 1) H = some (vl, H) := Box.ld (R := fun _ => True) ⟨trivial, _, _, g1⟩ rfl
  cases bad with
  | true =>
    refine ⟨H, ?_, Keep.refl _ _⟩
    refine Ev.enter (fun n => f76_eq rfl n _ _ _ _) ?_
    simp only [f76, ruA, ruB, ruC, ruE, ruD, lenStr, Int.reduceBEq, Int.reduceBNe, lb]
    exact Ev.pure _
  | false =>
    cases ts with
    | nil =>
      have e0 : lenS vl = some (.int .i64 0) := Sl.lenS g3
      refine ⟨H, ?_, Keep.refl _ _⟩
      refine Ev.enter (fun n => f76_eq rfl n _ _ _ _) ?_
      simp only [f76, ruA, ruB, ruC, ruE, ruD, lenStr, Int.reduceBEq, Int.reduceBNe, lb, ll, e0]
      exact Ev.pure _
    | cons t r =>
      have e0 : lenS vl = some (.int .i64 ((r.length + 1 : Nat) : Int)) := Sl.lenS g3
      have e1 : (((r.length + 1 : Nat) : Int) == 0) = false := by
        rw [Bool.eq_false_iff]; intro h; have h' : ((r.length + 1 : Nat) : Int) = 0 := by simpa using h
        omega
      obtain ⟨q, o, a1, _, a2, a3⟩ := g3.at (i := 0) (t := t) rfl
      have a1 : iAddrS 3 vl (.int .i64 0) = some (ptr q o) := a1
      by_cases hk : t.K = k
      · have ek : ((t.K : Int) != (k : Int)) = false := by rw [k_eq, decide_eq_true hk]; rfl
        have sp := spelled_ok h (hT t (by simp)) hb
        have en : nextS b k g (t :: r) false = (saysN b t, decide (k ≠ 4) || decide (saysN b t = g)) := by
          simp only [nextS, Bool.false_eq_true, if_false, if_pos hk]
        rw [en]
        refine ⟨H.push ⟨TOK t, 1, true⟩, ?_, push_keep⟩
        refine Ev.enter (fun n => f76_eq rfl n _ _ _ _) ?_
        have e4 : ((k : Int) != 4) = !decide (k = 4) := k_eq (k := 4)
        simp only [f76, ruA, ruB, ruC, ruE, ruD, lenStr, Int.reduceBEq, Int.reduceBNe, lb, ll, e0, e1, a1, Nat.add_zero, a2, ek, a3]
        refine Ev.callC sp ?_
        by_cases h4 : k = 4
        · simp only [ruA, ruB, ruC, ruE, ruD, lenStr, Int.reduceBEq, Int.reduceBNe, e4, decide_eq_true h4, bs_eql (t := 9), decide_eq_false (show ¬ k ≠ 4 by omega), Bool.false_or]
          exact Ev.pure _
        · simp only [ruA, ruB, ruC, ruE, ruD, lenStr, Int.reduceBEq, Int.reduceBNe, e4, decide_eq_false h4, decide_eq_true (show k ≠ 4 by omega), Bool.true_or]
          exact Ev.pure _
      · have ek : ((t.K : Int) != (k : Int)) = true := by rw [k_eq, decide_eq_false hk]; rfl
        have en : nextS b k g (t :: r) false = ([], false) := by
          simp only [nextS, Bool.false_eq_true, if_false, if_neg hk]
        rw [en]
        refine ⟨H, ?_, Keep.refl _ _⟩
        refine Ev.enter (fun n => f76_eq rfl n _ _ _ _) ?_
        simp only [f76, ruA, ruB, ruC, ruE, ruD, lenStr, Int.reduceBEq, Int.reduceBNe, lb, ll, e0, e1, a1, Nat.add_zero, a2, ek]
        exact Ev.pure _
/-- A reader that is written. -/
theorem RdB.upd {vt vl vl' : Value} {bad' : Bool} {ts' : List Tok} (hl : ¬ L p ∧ Rb L H) (hn : p < H.n) (g2 : SlU L H b vt) (g3 : Tks L H ts' vl') : RdB L (H.upd p (some ⟨[vt, vl', .bool bad'], 1, true⟩)) p b ts' bad' := by
  have hk : Keep L H (H.upd p (some ⟨[vt, vl', .bool bad'], 1, true⟩)) := Keep.upd hl.1
  exact ⟨⟨hl.1, hl.2.mono hk.1⟩, by rw [upd_n]; exact hn, vt, vl', upd_self, Sl.keep g2 hk, Sl.keep g3 hk⟩
theorem upd_but {x : Option Blk} : Keep (But H p) H (H.upd p x) := Keep.upd fun h => h.2 rfl
theorem all_but (H : Heap) (p : Nat) : ∀ q, But H p q → all H q := fun q h => h.1
theorem RdB.all {H' : Heap} (h : RdB L H p b ts bad) (hk : Keep (Eng.all H) H H') : RdB L H' p b ts bad :=
  h.move (hk.mono h.1.2) (hk.2 p h.2.1)
theorem but_up {H' : Heap} (hk : H.n ≤ H'.n) : ∀ q, But H p q → But H' p q := fun q h => ⟨Nat.lt_of_lt_of_le h.1 hk, h.2⟩
theorem may_ok (h : RdB L H p b ts bad) (hT : ∀ t ∈ ts, TG b t) (hb : b.length ≤ 8192) (k : Nat) (g : List UInt8) :
    ∃ H', Cl 55 [ptr p 0, .int .i64 (k : Int), .string (bs g)] H (.tuple #[.string (bs (nextS b k g ts bad).1), .bool (nextS b k g ts bad).2]) H' ∧ Keep (But H p) H H' ∧
      RdB L H' p b (if (nextS b k g ts bad).2 then ts.tail else ts) bad := by
  obtain ⟨H1, c1, k1⟩ := next_ok h hT hb k g
  have h1 := h.all k1
  cases hok : (nextS b k g ts bad).2 with
  | false =>
    refine ⟨H1, ?_, k1.mono (all_but H p), by simpa using h1⟩
    rw [hok] at c1
    refine Ev.enter (fun n => f55_eq rfl n _ _ _ _) ?_
    simp only [f55, ruA, ruB, ruC, ruE, ruD, lenStr, Int.reduceBEq, Int.reduceBNe]
    refine Ev.callC c1 ?_
    simp only [ruA, ruB, ruC, ruE, ruD, lenStr, Int.reduceBEq, Int.reduceBNe]
    exact Ev.pure _
  | true =>
    rw [hok] at c1
    obtain ⟨t, r, rfl, rfl, _⟩ := nextS_head hok
    obtain ⟨hl, hn, vt, vl, g1, g2, g3⟩ := id h1
    obtain ⟨vl', s1, s2⟩ := Tks.rest g3
    have hc : Eng.oneC vl' = true ∧ vl'.cells = #[vl'] := Sl.oneC s2
    have ll : ldC (ptr p 1) H1 = some (vl, H1) := Box.ld (R := fun _ => True) ⟨trivial, _, _, g1⟩ rfl
    have st : stV 1 (ptr p 1) vl' H1 = some (undef, H1.upd p (some ⟨[vt, vl', .bool false], 1, true⟩)) := stV1_box g1 (by simp) hc.2 hc.1
    refine ⟨H1.upd p (some ⟨[vt, vl', .bool false], 1, true⟩), ?_, (k1.mono (all_but H p)).trans (upd_but.mono (but_up k1.1)), RdB.upd (vl := vl) hl hn g2 s2⟩
    refine Ev.enter (fun n => f55_eq rfl n _ _ _ _) ?_
    simp only [f55, ruA, ruB, ruC, ruE, ruD, lenStr, Int.reduceBEq, Int.reduceBNe]
    refine Ev.callC c1 ?_
    simp only [ruA, ruB, ruC, ruE, ruD, lenStr, Int.reduceBEq, Int.reduceBNe, ll, s1, st]
    exact Ev.pure _
/-- What is taken, of words as they stand. -/
theorem must_words {k : Nat} {g : List UInt8} : mustN k g ⟨wordsOf b ts, bad⟩ = (if (nextS b k g ts bad).2 then ((nextS b k g ts bad).1, ⟨wordsOf b ts.tail, bad⟩) else ([], ⟨wordsOf b ts, true⟩)) := by
  unfold mustN
  rw [← nextS_is]
  split
  · rename_i h
    obtain ⟨t, r, rfl, rfl, e⟩ := nextS_head h
    rw [e]
    rfl
  · rfl
theorem nextS_no {k : Nat} {g : List UInt8} (hk : k ≠ 4) (h : (nextS b k g ts bad).2 = false) : (nextS b k g ts bad).1 = [] := by
  unfold nextS at h ⊢
  cases bad with
  | true => rfl
  | false =>
    cases ts with
    | nil => rfl
    | cons t r =>
      simp only [Bool.false_eq_true, if_false] at h ⊢
      split
      · rename_i hh; rw [if_pos hh] at h; simp [hk] at h
      · rfl
theorem must_ok (h : RdB L H p b ts bad) (hT : ∀ t ∈ ts, TG b t) (hb : b.length ≤ 8192) (k : Nat) (g : List UInt8) :
    ∃ s H' ts', Cl 35 [ptr p 0, .int .i64 (k : Int), .string (bs g)] H (.string (bs s)) H' ∧ Keep (But H p) H H' ∧ RdB L H' p b ts' (mustN k g ⟨wordsOf b ts, bad⟩).2.bad ∧
      (mustN k g ⟨wordsOf b ts, bad⟩).2.l = wordsOf b ts' ∧ ts' <:+ ts ∧ (k ≠ 4 → s = (mustN k g ⟨wordsOf b ts, bad⟩).1) := by
  obtain ⟨H1, c1, k1, h1⟩ := may_ok h hT hb k g
  obtain ⟨hl, hn, vt, vl, g1, g2, g3⟩ := id h1
  have lb : ldC (ptr p 2) H1 = some (.bool bad, H1) := Box.ld (R := fun _ => True) ⟨trivial, _, _, g1⟩ rfl
  have st : ∀ x : Bool, stV 1 (ptr p 2) (.bool x) H1 = some (undef, H1.upd p (some ⟨[vt, vl, .bool x], 1, true⟩)) := fun x => stV1_box g1 (by simp) rfl rfl
  rw [must_words]
  cases hok : (nextS b k g ts bad).2 with
  | true =>
    rw [hok] at c1
    obtain ⟨t, r, rfl, rfl, e⟩ := nextS_head hok
    rw [hok] at g3
    refine ⟨(nextS b k g (t :: r) false).1, H1.upd p (some ⟨[vt, vl, .bool false], 1, true⟩), r, ?_, k1.trans (upd_but.mono (but_up k1.1)), RdB.upd (vl := vl) hl hn g2 g3, rfl, List.suffix_cons t r, fun _ => rfl⟩
    refine Ev.enter (fun n => f35_eq rfl n _ _ _ _) ?_
    simp only [f35, ruA, ruB, ruC, ruE, ruD, lenStr, Int.reduceBEq, Int.reduceBNe]
    refine Ev.callC c1 ?_
    simp only [ruA, ruB, ruC, ruE, ruD, lenStr, Int.reduceBEq, Int.reduceBNe, lb, st]
    exact Ev.pure _
  | false =>
    rw [hok] at c1 g3
    refine ⟨(nextS b k g ts bad).1, H1.upd p (some ⟨[vt, vl, .bool true], 1, true⟩), ts, ?_, k1.trans (upd_but.mono (but_up k1.1)), RdB.upd (vl := vl) hl hn g2 g3, rfl, List.suffix_refl _, fun hk => nextS_no hk hok⟩
    refine Ev.enter (fun n => f35_eq rfl n _ _ _ _) ?_
    simp only [f35, ruA, ruB, ruC, ruE, ruD, lenStr, Int.reduceBEq, Int.reduceBNe]
    refine Ev.callC c1 ?_
    cases bad with
    | true =>
      simp only [ruA, ruB, ruC, ruE, ruD, lenStr, Int.reduceBEq, Int.reduceBNe, lb, st]
      exact Ev.pure _
    | false =>
      simp only [ruA, ruB, ruC, ruE, ruD, lenStr, Int.reduceBEq, Int.reduceBNe, lb, st]
      exact Ev.pure _
end
end Go.Eng
