/- The program's Cut. -/
import Derived.Test.YtmfbebfpeimflaaDoorGE
set_option linter.unusedVariables false
set_option linter.unusedSimpArgs false
namespace Go.Eng
open Go Go.Proofs

/-! ### words as they lie -/
def TOK (t : Tok) : List Value := [.int .i64 (t.K : Int), .int .i64 (t.F : Int), .int .i64 (t.T : Int)]
def TOKS (ts : List Tok) : List Value := ts.flatMap TOK
theorem TOKS_len (ts : List Tok) : (TOKS ts).length = ts.length * 3 := by
  induction ts with
  | nil => rfl
  | cons t ts ih => simp only [TOKS, List.flatMap_cons, List.length_append, List.length_cons] at *; rw [ih]; simp [TOK]; omega
theorem TOKS_snoc (ts : List Tok) (t : Tok) : TOKS (ts ++ [t]) = TOKS ts ++ TOK t := by simp [TOKS]
/-- What Cut answers. -/
def cutG (pre : List Tok) (x : List Tok × Option Nat) : List Tok × Int × Int := match x.2 with
  | some e => ([], (e : Int), 140)
  | none => (pre ++ x.1, 0, 0)
def cutR (b : List UInt8) : List Tok × Int × Int := if 8192 < b.length then ([], 0, 5) else cutG [] (cutN 0 b)
theorem cutG_word {pre : List Tok} {t : Tok} {x : List Tok × Option Nat} : cutG pre (t :: x.1, x.2) = cutG (pre ++ [t]) x := by
  obtain ⟨a, b⟩ := x
  cases b <;> simp [cutG]

theorem cut_trim : ∀ (l : List UInt8) (a : Nat), cutN a l = cutN (a + (l.takeWhile wBlank).length) (l.dropWhile wBlank)
  | [], a => by simp
  | c :: l, a => by
    by_cases h : wBlank c = true
    · rw [cut_blank h, cut_trim l (a + 1)]
      simp only [List.takeWhile_cons, h, if_true, List.length_cons, List.dropWhile_cons]
      congr 1; omega
    · simp [h]
/-- The position is told by how much is left. -/
theorem cut_trimN {N : Nat} {l : List UInt8} (h : l.length ≤ N) : cutN (N - l.length) l = cutN (N - (l.dropWhile wBlank).length) (l.dropWhile wBlank) := by
  rw [cut_trim]
  congr 1
  have := dropWhile_len wBlank l
  omega
theorem cut_remarkN {N : Nat} {r : List UInt8} (h : (35 :: r).length ≤ N) : cutN (N - (35 :: r).length) (35 :: r) = cutN (N - ((r.dropWhile (fun x => decide (x ≠ 10))).drop 1).length) ((r.dropWhile (fun x => decide (x ≠ 10))).drop 1) := by
  rw [cut_remark]
  have h1 := dropWhile_len (fun x : UInt8 => decide (x ≠ 10)) r
  simp only [List.length_cons] at h
  cases hd : r.dropWhile (fun x : UInt8 => decide (x ≠ 10)) with
  | nil => simp [cut_nil]
  | cons y ys =>
    have hy : y = 10 := by
      have := List.head?_dropWhile_not (fun x : UInt8 => decide (x ≠ 10)) r
      rw [hd] at this
      simpa using this
    subst hy
    rw [hd] at h1
    rw [cut_blank rfl]
    simp only [List.drop_succ_cons, List.drop_zero, List.length_cons] at h1 ⊢
    congr 1; omega
theorem headBlank : ∀ (l : List UInt8) (c : UInt8) (r : List UInt8), l.dropWhile wBlank = c :: r → wBlank c = false
  | [], c, r, h => by simp at h
  | a :: l, c, r, h => by
    by_cases ha : wBlank a = true
    · rw [List.dropWhile_cons, if_pos ha] at h; exact headBlank l c r h
    · rw [List.dropWhile_cons, if_neg ha] at h
      simp only [List.cons.injEq] at h
      obtain ⟨rfl, _⟩ := h
      simpa using ha
theorem dropWhile_le {α : Type} (p : α → Bool) (l : List α) : (l.dropWhile p).length ≤ l.length := (List.dropWhile_suffix p).length_le

/-! ### what is made -/
theorem bld3 {H : Heap} {a b c : Int} : bld [.int .i64 0, .int .i64 0, .int .i64 0] [(0, 1, .int .i64 a), (1, 1, .int .i64 b), (2, 1, .int .i64 c)] H = some (.agg #[.int .i64 a, .int .i64 b, .int .i64 c], H) := by kernel_rfl
theorem bldS3 {H : Heap} {a b c : Int} : bldS 3 1 [.int .i64 0, .int .i64 0, .int .i64 0] [(0, 3, .agg #[.int .i64 a, .int .i64 b, .int .i64 c])] H = some (.slice (some ⟨H.n, 0, none⟩) 1 1, H.push ⟨[.int .i64 a, .int .i64 b, .int .i64 c], 3, true⟩) := by kernel_rfl
theorem mark10 {H : Heap} : markV (.slice (some ⟨H.n, 0, none⟩) 1 1) (H.push ⟨[.int .u8 10], 1, true⟩) = some (.slice (some ⟨H.n, 0, none⟩) 1 1, H.push ⟨[.int .u8 10], 1, true⟩) := by
  simp only [markV, push_self, Blk.w_mk]
  simp
theorem new10 {H : Heap} : SlU (all (H.push ⟨[.int .u8 10], 1, true⟩)) (H.push ⟨[.int .u8 10], 1, true⟩) [10] (.slice (some ⟨H.n, 0, none⟩) 1 1) :=
  .inr (.inr ⟨H.n, 0, none, 1, _, rfl, by simp [all, push_n], push_self, by simp, by simp, by rfl⟩)
/-- A word is appended. -/
theorem tok_app {H0 H : Heap} {v : Value} {ts : List Tok} (h : Acc (all H0) H 3 v ts.length (TOKS ts)) (hn : H0.n ≤ H.n) (t : Tok) (hb : ts.length ≤ 100000) :
    ∃ v' H', app 3 24 v (.slice (some ⟨H.n, 0, none⟩) 1 1) (H.push ⟨TOK t, 3, true⟩) = some (v', H') ∧ Acc (all H0) H' 3 v' (ts ++ [t]).length (TOKS (ts ++ [t])) ∧ Keep (all H0) H H' ∧ (∀ b, blkOf v ≠ some b → b < H.n → H'.get b = H.get b) := by
  have hk : Keep (all H) H (H.push ⟨TOK t, 3, true⟩) := push_keep
  have hx : addend 3 (.slice (some ⟨H.n, 0, none⟩) 1 1) (H.push ⟨TOK t, 3, true⟩) = some (1, TOK t) := addend_push rfl
  have hm : mostBytes = 140737488355328 := rfl
  have h' : Acc (fun b => b < H.n ∧ blkOf v ≠ some b) (H.push ⟨TOK t, 3, true⟩) 3 v ts.length (TOKS ts) := (h.keep hk).weak fun b hb hq => hq.2 hb
  obtain ⟨v', H', g1, g2, g3⟩ := (h.keep hk).app (by_ := 24) ((Rb.all H0).mono (by simp [push_n]; omega)) hx rfl (by omega)
  obtain ⟨v2, H2, k1, k2, k3⟩ := h'.app (by_ := 24) (fun b hb => by simp only [push_n]; omega) hx rfl (by omega)
  rw [g1] at k1
  simp only [Option.some.injEq, Prod.mk.injEq] at k1
  obtain ⟨rfl, rfl⟩ := k1
  refine ⟨v', H', g1, ?_, ?_, fun b hb hlt => ?_⟩
  · rw [TOKS_snoc]; simpa using g2
  · exact ⟨Nat.le_trans (by simp [push_n]) g3.1, fun b hb => by rw [g3.2 b hb, push_lt (by have : b < H0.n := hb; omega)]⟩
  · rw [k3.2 b ⟨hlt, hb⟩, push_lt hlt]
/-! ### the loop -/
theorem sub_len {a b : Nat} (h : b ≤ a) (h' : a < 9223372036854775807) : IntKind.i64.wrap ((a : Int) - (b : Int)) = ((a - b : Nat) : Int) := by rw [wrap_i64 (by omega) (by omega)]; omega
theorem add_len {a b : Nat} (h' : a + b < 9223372036854775807) : IntKind.i64.wrap ((a : Int) + (b : Int)) = ((a + b : Nat) : Int) := by rw [wrap_i64 (by omega) (by omega)]; omega
theorem wd0 {l : List UInt8} : (((wordN l).1 : Int) == 0) = decide ((wordN l).1 = 0) := by
  rw [Bool.eq_iff_iff]; simp only [beq_iff_eq, decide_eq_true_eq]; omega
theorem cut_loop {H0 : Heap} {b : List UInt8} {x0 : Value} (hL : Box (all H0) H0 0 LANG) (hx : SlU (all H0) H0 b x0) (hb : b.length ≤ 8192) : ∀ (k : Nat) (l : List UInt8) (H : Heap) (v x2 : Value) (pre : List Tok), l.length ≤ k → l.length ≤ b.length → (∀ c r, l = c :: r → wBlank c = false) → pre.length + l.length ≤ 8192 →
    Keep (all H0) H0 H → SlU (all H0) H l v → Acc (all H0) H 3 x2 pre.length (TOKS pre) →
    ∃ w H', Ev (fun n m => f17_L0 real (AC n) n m x0 x2 v H) (.tuple #[w, .int .i64 (cutG pre (cutN (b.length - l.length) l)).2.1, .int .i64 (cutG pre (cutN (b.length - l.length) l)).2.2], H') ∧
      Acc (all H0) H' 3 w (cutG pre (cutN (b.length - l.length) l)).1.length (TOKS (cutG pre (cutN (b.length - l.length) l)).1) ∧ Keep (all H0) H0 H' := by
  intro k
  induction k with
  | zero =>
    intro l H v x2 pre hk hlb hh hp hK hs hA
    have : l = [] := List.length_eq_zero_iff.1 (by omega)
    subst this
    refine ⟨x2, H, ?_, by simpa [cut_nil, cutG] using hA, hK⟩
    refine Ev.step (fun n m => f17_L0.eq_2 _ _ _ _ _ _ _ _) ?_
    have e : (((([] : List UInt8).length : Nat) : Int) > 0) = False := by simp
    simp only [ruA, ruB, ruC, ruE, ruD, lenStr, Int.reduceBEq, Int.reduceBNe, hs.len, e, cut_nil, cutG]
    exact Ev.pure _
  | succ k ih =>
    intro l H v x2 pre hk hlb hh hp hK hs hA
    cases l with
    | nil =>
      refine ⟨x2, H, ?_, by simpa [cut_nil, cutG] using hA, hK⟩
      refine Ev.step (fun n m => f17_L0.eq_2 _ _ _ _ _ _ _ _) ?_
      have e : (((([] : List UInt8).length : Nat) : Int) > 0) = False := by simp
      simp only [ruA, ruB, ruC, ruE, ruD, lenStr, Int.reduceBEq, Int.reduceBNe, hs.len, e, cut_nil, cutG]
      exact Ev.pure _
    | cons c r =>
      have hbl := hh c r rfl
      have e : ((((c :: r).length : Nat) : Int) > 0) = True := by simp
      have hx' : SlU (all H0) H b x0 := Sl.keep hx hK
      have hs' := sub_len hlb (by omega)
      obtain ⟨p, p1, p2⟩ := hs.at (i := 0) (c := c) rfl
      simp only [Int.natCast_zero] at p1
      have hlen : (c :: r).length = r.length + 1 := rfl
      -- what comes behind
      have next : ∀ (l2 : List UInt8) (H2 : Heap) (v2 y2 : Value) (pre2 : List Tok), l2.length ≤ r.length → pre2.length + l2.length ≤ 8192 → Keep (all H0) H0 H2 → SlU (all H0) H2 l2 v2 → Acc (all H0) H2 3 y2 pre2.length (TOKS pre2) →
          ∃ w H', Ev (fun n m => f17_J1 real (AC n) n (f17_L0 real (AC n) n m) x0 y2 v2 H2) (.tuple #[w, .int .i64 (cutG pre2 (cutN (b.length - l2.length) l2)).2.1, .int .i64 (cutG pre2 (cutN (b.length - l2.length) l2)).2.2], H') ∧
            Acc (all H0) H' 3 w (cutG pre2 (cutN (b.length - l2.length) l2)).1.length (TOKS (cutG pre2 (cutN (b.length - l2.length) l2)).1) ∧ Keep (all H0) H0 H' := by
        intro l2 H2 v2 y2 pre2 h1 h2 h3 h4 h5
        have hle := dropWhile_le wBlank l2
        obtain ⟨v3, H3, t1, t2, t3⟩ := trim_ok ((Rb.all H0).mono h3.1) h4 (by omega)
        have k3 : Keep (all H0) H2 H3 := t3.of_all ((Rb.all H0).mono h3.1)
        obtain ⟨w, H', g1, g2, g3⟩ := ih (l2.dropWhile wBlank) H3 v3 y2 pre2 (by omega) (by omega) (headBlank l2) (by omega) (h3.trans k3) t2 (h5.keep t3)
        rw [cut_trimN (N := b.length) (l := l2) (by omega)]
        refine ⟨w, H', ?_, g2, g3⟩
        simp only [f17_J1, ruA, ruB, ruC, ruE, ruD, lenStr, Int.reduceBEq, Int.reduceBNe]
        exact Ev.callC t1 g1
      by_cases hc : c = 35
      · subst hc
        have hK2 : Keep (all H) H (H.push ⟨[.int .u8 10], 1, true⟩) := push_keep
        obtain ⟨a, r2, t, q1, q2⟩ := cut_ok (Sl.keep hs (hK2.of_all ((Rb.all H0).mono hK.1))) (new10 (H := H)) (by omega)
        have hle := dropWhile_le (fun x : UInt8 => decide (x ≠ 10)) r
        have e35 : ((35 :: r : List UInt8).dropWhile (fun x => decide (x ≠ 10))) = r.dropWhile (fun x => decide (x ≠ 10)) := by simp
        rw [e35] at q2
        obtain ⟨w, H', g1, g2, g3⟩ := next _ _ r2 x2 pre (by simp only [List.length_drop]; omega) (by simp only [List.length_drop]; omega) (hK.trans (hK2.of_all ((Rb.all H0).mono hK.1))) q2 (hA.keep hK2)
        rw [cut_remarkN hlb]
        refine ⟨w, H', ?_, g2, g3⟩
        refine Ev.step (fun n m => f17_L0.eq_2 _ _ _ _ _ _ _ _) ?_
        simp only [ruA, ruB, ruC, ruE, ruD, lenStr, Int.reduceBEq, Int.reduceBNe, hs.len, e, hx'.len, hs', p1, p2, u8_lit 35 35 (n := 35) rfl, decide_true, bld1 (x := .int .u8 10) rfl rfl, mark10]
        refine Ev.callC q1 ?_
        simp only [ruA, ruB, ruC, ruE, ruD, lenStr, Int.reduceBEq, Int.reduceBNe]
        exact g1
      · have hLg : Lg H := (hL.keep hK).mono (fun i hi => Nat.lt_of_lt_of_le hi hK.1)
        obtain ⟨H1, w1, w2⟩ := word_ok (c := c) (r := r) hLg (by omega)
        have kk : Keep (all H0) H H1 := w2.of_all ((Rb.all H0).mono hK.1)
        by_cases hw : (wordN (c :: r)).1 = 0
        · rw [cut_bad hbl hc hw]
          refine ⟨nilS, H1, ?_, Acc.nil, hK.trans kk⟩
          refine Ev.step (fun n m => f17_L0.eq_2 _ _ _ _ _ _ _ _) ?_
          simp only [ruA, ruB, ruC, ruE, ruD, lenStr, Int.reduceBEq, Int.reduceBNe, hs.len, e, hx'.len, hs', p1, p2, u8_lit c 35 (n := 35) rfl, decide_eq_false hc, toStr_U hs]
          refine Ev.callC w1 ?_
          simp only [ruA, ruB, ruC, ruE, ruD, lenStr, Int.reduceBEq, Int.reduceBNe, wd0, decide_eq_true hw]
          exact Ev.pure _
        · obtain ⟨g1, g2, _, _⟩ := word_ext hw
          rw [cut_word hbl hc hw, cutG_word]
          obtain ⟨v2, H2, a1, a2, a3, a4⟩ := tok_app (hA.keep w2) (Nat.le_trans hK.1 w2.1) ⟨(wordN (c :: r)).1, b.length - (c :: r).length, b.length - (c :: r).length + (wordN (c :: r)).2⟩ (by omega)
          obtain ⟨u, u1, u2⟩ := SlU.drop (l := c :: r) (Sl.keep (Sl.keep hs kk) a3) (k := .i64) (i := (wordN (c :: r)).2) g2
          obtain ⟨w, H', q1, q2, q3⟩ := next ((c :: r).drop (wordN (c :: r)).2) H2 u v2 (pre ++ [⟨(wordN (c :: r)).1, b.length - (c :: r).length, b.length - (c :: r).length + (wordN (c :: r)).2⟩]) (by simp only [List.length_drop]; omega) (by simp only [List.length_drop, List.length_append, List.length_cons, List.length_nil] at hp ⊢; omega) (hK.trans (kk.trans a3)) u2 a2
          have epos : b.length - ((c :: r).drop (wordN (c :: r)).2).length = b.length - (c :: r).length + (wordN (c :: r)).2 := by simp only [List.length_drop]; omega
          rw [epos] at q1 q2
          refine ⟨w, H', ?_, q2, q3⟩
          refine Ev.step (fun n m => f17_L0.eq_2 _ _ _ _ _ _ _ _) ?_
          simp only [ruA, ruB, ruC, ruE, ruD, lenStr, Int.reduceBEq, Int.reduceBNe, hs.len, e, hx'.len, hs', p1, p2, u8_lit c 35 (n := 35) rfl, decide_eq_false hc, toStr_U hs]
          refine Ev.callC w1 ?_
          have a1' : app 3 24 x2 (.slice (some ⟨H1.n, 0, none⟩) 1 1) (H1.push ⟨[.int .i64 ((wordN (c :: r)).1 : Int), .int .i64 ((b.length - (c :: r).length : Nat) : Int), .int .i64 ((b.length - (c :: r).length + (wordN (c :: r)).2 : Nat) : Int)], 3, true⟩) = some (v2, H2) := a1
          simp only [ruA, ruB, ruC, ruE, ruD, lenStr, Int.reduceBEq, Int.reduceBNe, wd0, decide_eq_false hw, add_len (show b.length - (c :: r).length + (wordN (c :: r)).2 < 9223372036854775807 by omega), bld3, bldS3, a1', u1]
          exact q1
theorem wcut_ok {H : Heap} {b : List UInt8} {v : Value} (hL : Lg H) (hs : SlU (all H) H b v) (hb : b.length < 9223372036854775807) :
    ∃ w H', Cl 17 [v] H (.tuple #[w, .int .i64 (cutR b).2.1, .int .i64 (cutR b).2.2]) H' ∧ Acc (all H) H' 3 w (cutR b).1.length (TOKS (cutR b).1) ∧ Keep (all H) H H' := by
  unfold cutR
  by_cases h : 8192 < b.length
  · rw [if_pos h]
    refine ⟨nilS, H, ?_, Acc.nil, Keep.refl _ _⟩
    refine Ev.enter (fun n => f17_eq rfl n _ _) ?_
    simp only [f17, ruA, ruB, ruC, ruE, ruD, lenStr, Int.reduceBEq, Int.reduceBNe, hs.len, eq_true (show ((b.length : Int) > 8192) by omega)]
    exact Ev.pure _
  · rw [if_neg h]
    obtain ⟨v2, H2, t1, t2, t3⟩ := trim_ok (Rb.all H) hs hb
    have hle := dropWhile_le wBlank b
    obtain ⟨w, H', g1, g2, g3⟩ := cut_loop hL hs (by omega) b.length (b.dropWhile wBlank) H2 v2 nilS [] hle hle (headBlank b) (by simp; omega) t3 t2 Acc.nil
    rw [← cut_trimN (Nat.le_refl b.length), Nat.sub_self] at g1 g2
    refine ⟨w, H', ?_, g2, g3⟩
    refine Ev.enter (fun n => f17_eq rfl n _ _) ?_
    simp only [f17, ruA, ruB, ruC, ruE, ruD, lenStr, Int.reduceBEq, Int.reduceBNe, hs.len, eq_false (show ¬ ((b.length : Int) > 8192) by omega)]
    refine Ev.callC t1 ?_
    exact g1.loop
end Go.Eng
