import Derived.Test.YtmfbebfpeimflaaDoorGL
/- The program's reader: names, ways. -/
set_option linter.unusedVariables false
set_option linter.unusedSimpArgs false
set_option maxRecDepth 100000
namespace Go.Eng
open Go Go.Proofs

theorem nextS_name {b : List UInt8} {t : Tok} {r : List Tok} : nextS b 1 [] (t :: r) false = if t.K = 1 then (saysN b t, true) else ([], false) := by
  simp [nextS]
theorem namesL_words {b : List UInt8} {t : Tok} {r : List Tok} (h : t.K = 1) : namesL (wordsOf b (t :: r)) = (saysN b t :: (namesL (wordsOf b r)).1, (namesL (wordsOf b r)).2) := by
  simp [wordsOf, namesL, h]
theorem b1s {H : Heap} {s : ByteArray} : bldS 1 1 [.string ⟨#[]⟩] [(0, 1, .string s)] H = some (.slice (some ⟨H.n, 0, none⟩) 1 1, H.push ⟨[.string s], 1, true⟩) := bld1 rfl rfl
section
variable {R : Nat → Prop} {H0 : Heap} {p : Nat} {b : List UInt8}
theorem names_round (hp0 : p < H0.n) (hRb : Rb R H0) (hb : b.length ≤ 8192) {ts : List Tok} {H : Heap} {v : Value} {pre : List (List UInt8)} {s : List UInt8}
    (next : ∀ (r : List Tok) (t : Tok) (s' : List UInt8) (H' : Heap) (v' : Value) (pre' : List (List UInt8)), ts = t :: r → pre'.length + r.length ≤ 8192 → (∀ t ∈ r, TG b t) → Keep (But H0 p) H0 H' → RdB R H' p b r false → Acc (all H0) H' 1 v' pre'.length (STRL pre') →
      ∃ w H2 ts', Ev (fun n m => f37_L0 real (AC n) n m (ptr p 0) v' (.string (bs s')) (.bool true) H') (w, H2) ∧ Keep (But H0 p) H0 H2 ∧ RdB R H2 p b ts' false ∧ ts' <:+ r ∧ (namesL (wordsOf b r)).2 = wordsOf b ts' ∧
        Acc (all H0) H2 1 w (pre' ++ s' :: (namesL (wordsOf b r)).1).length (STRL (pre' ++ s' :: (namesL (wordsOf b r)).1)))
    (hl : pre.length + ts.length ≤ 8192) (hT : ∀ t ∈ ts, TG b t) (hK : Keep (But H0 p) H0 H) (hR : RdB R H p b ts false) (hA : Acc (all H0) H 1 v pre.length (STRL pre)) :
    ∃ w H' ts', Ev (fun n m => f37_L0 real (AC n) n m (ptr p 0) v (.string (bs s)) (.bool true) H) (w, H') ∧ Keep (But H0 p) H0 H' ∧ RdB R H' p b ts' false ∧ ts' <:+ ts ∧ (namesL (wordsOf b ts)).2 = wordsOf b ts' ∧
      Acc (all H0) H' 1 w (pre ++ s :: (namesL (wordsOf b ts)).1).length (STRL (pre ++ s :: (namesL (wordsOf b ts)).1)) := by
  have hm : mostBytes = 140737488355328 := rfl
  have hp : Keep (all H) H (H.push ⟨[.string (bs s)], 1, true⟩) := push_keep
  obtain ⟨v', H1, g1, g2, g3, g4, g5, g6⟩ := (hA.keep hp).appQ (by_ := 16) (Nat.le_trans hK.1 hp.1) (addend_push (sz := 1) (n := 1) (cs := [.string (bs s)]) rfl) rfl (by omega)
  have hvp : blkOf v ≠ some p := fun e => (hA.at e).1 hp0
  have e1 : pre.length + 1 = (pre ++ [s]).length := by simp
  have e2 : STRL pre ++ [.string (bs s)] = STRL (pre ++ [s]) := by simp [STRL]
  rw [e1, e2] at g2
  have hget : H1.get p = H.get p := by
    rw [g4.2 p ⟨Nat.lt_of_lt_of_le hR.2.1 hp.1, hvp⟩, push_lt hR.2.1]
  have kR : Keep R H H1 := (hp.mono hR.1.2).trans (g4.mono fun q hq => ⟨Nat.lt_of_lt_of_le (hR.1.2 q hq) hp.1, fun e => (hA.at e).1 (hRb q hq)⟩)
  have hR1 : RdB R H1 p b ts false := hR.move kR hget
  have K1 : Keep (But H0 p) H0 H1 := (hK.trans (hp.mono fun q hq => Nat.lt_of_lt_of_le hq.1 hK.1)).trans (g3.mono fun q hq => hq.1)
  obtain ⟨H2, c1, k2, r2⟩ := may_ok hR1 hT hb 1 []
  have hA2 : Acc (all H0) H2 1 v' (pre ++ [s]).length (STRL (pre ++ [s])) := by
    refine Acc.othr (v := ptr p 0) g2 (fun q e1 e2 => ?_) (k2.mono fun q hq => ⟨hq.1, fun e => hq.2 (by rw [e]; rfl)⟩)
    have hq : q = p := by simpa [blkOf] using e1.symm
    subst hq
    exact (g2.at e2).1 hp0
  have K2 : Keep (But H0 p) H0 H2 := K1.trans (k2.mono fun q hq => ⟨Nat.lt_of_lt_of_le hq.1 K1.1, hq.2⟩)
  cases ts with
  | nil =>
    have e : nextS b 1 [] [] false = ([], false) := rfl
    rw [e] at c1 r2
    refine ⟨v', H2, [], ?_, K2, r2, List.suffix_refl _, rfl, by simpa [wordsOf, namesL] using hA2⟩
    refine Ev.step (fun n m => f37_L0.eq_2 _ _ _ _ _ _ _ _ _) ?_
    simp only [ruA, ruB, ruC, ruE, ruD, lenStr, Int.reduceBEq, Int.reduceBNe, b1s, g1]
    refine Ev.callC c1 ?_
    simp only [ruA, ruB, ruC, ruE, ruD, lenStr, Int.reduceBEq, Int.reduceBNe]
    refine Ev.step (fun n m => f37_L0.eq_2 _ _ _ _ _ _ _ _ _) ?_
    simp only [ruA, ruB, ruC, ruE, ruD, lenStr, Int.reduceBEq, Int.reduceBNe]
    exact Ev.pure _
  | cons t r =>
    rw [nextS_name] at c1 r2
    by_cases hk : t.K = 1
    · rw [if_pos hk] at c1 r2
      have hl' : (pre ++ [s]).length + r.length ≤ 8192 := by simp only [List.length_append, List.length_cons, List.length_nil] at hl ⊢; omega
      obtain ⟨w, H', ts', q1, q2, q3, q4, q5, q6⟩ := next r t (saysN b t) H2 v' (pre ++ [s]) rfl hl' (fun u hu => hT u (by simp [hu])) K2 r2 hA2
      rw [namesL_words hk]
      have e3 : pre ++ [s] ++ saysN b t :: (namesL (wordsOf b r)).1 = pre ++ s :: saysN b t :: (namesL (wordsOf b r)).1 := by simp
      rw [e3] at q6
      refine ⟨w, H', ts', ?_, q2, q3, q4.trans (List.suffix_cons t r), q5, q6⟩
      refine Ev.step (fun n m => f37_L0.eq_2 _ _ _ _ _ _ _ _ _) ?_
      simp only [ruA, ruB, ruC, ruE, ruD, lenStr, Int.reduceBEq, Int.reduceBNe, b1s, g1]
      refine Ev.callC c1 ?_
      simp only [ruA, ruB, ruC, ruE, ruD, lenStr, Int.reduceBEq, Int.reduceBNe]
      exact q1
    · rw [if_neg hk] at c1 r2
      have e : namesL (wordsOf b (t :: r)) = ([], wordsOf b (t :: r)) := by simp [wordsOf, namesL, hk]
      rw [e]
      refine ⟨v', H2, t :: r, ?_, K2, r2, List.suffix_refl _, rfl, hA2⟩
      refine Ev.step (fun n m => f37_L0.eq_2 _ _ _ _ _ _ _ _ _) ?_
      simp only [ruA, ruB, ruC, ruE, ruD, lenStr, Int.reduceBEq, Int.reduceBNe, b1s, g1]
      refine Ev.callC c1 ?_
      simp only [ruA, ruB, ruC, ruE, ruD, lenStr, Int.reduceBEq, Int.reduceBNe]
      refine Ev.step (fun n m => f37_L0.eq_2 _ _ _ _ _ _ _ _ _) ?_
      simp only [ruA, ruB, ruC, ruE, ruD, lenStr, Int.reduceBEq, Int.reduceBNe]
      exact Ev.pure _
theorem names_loop (hp0 : p < H0.n) (hRb : Rb R H0) (hb : b.length ≤ 8192) : ∀ (n : Nat) (ts : List Tok) (H : Heap) (v : Value) (pre : List (List UInt8)) (s : List UInt8), ts.length ≤ n → pre.length + ts.length ≤ 8192 → (∀ t ∈ ts, TG b t) → Keep (But H0 p) H0 H → RdB R H p b ts false → Acc (all H0) H 1 v pre.length (STRL pre) →
    ∃ w H' ts', Ev (fun n m => f37_L0 real (AC n) n m (ptr p 0) v (.string (bs s)) (.bool true) H) (w, H') ∧ Keep (But H0 p) H0 H' ∧ RdB R H' p b ts' false ∧ ts' <:+ ts ∧ (namesL (wordsOf b ts)).2 = wordsOf b ts' ∧
      Acc (all H0) H' 1 w (pre ++ s :: (namesL (wordsOf b ts)).1).length (STRL (pre ++ s :: (namesL (wordsOf b ts)).1)) := by
  have hm : mostBytes = 140737488355328 := rfl
  intro n
  induction n with
  | zero =>
    intro ts H v pre s hn hl hT hK hR hA
    exact names_round hp0 hRb hb (fun r t s' H' v' pre' h1 => by have : ts = [] := List.length_eq_zero_iff.1 (by omega); rw [this] at h1; cases h1) hl hT hK hR hA
  | succ n ih =>
    intro ts H v pre s hn hl hT hK hR hA
    exact names_round hp0 hRb hb (fun r t s' H' v' pre' h1 => by
      subst h1
      simp only [List.length_cons] at hn hl
      exact fun h2 h3 h4 h5 h6 => ih r H' v' pre' s' (by omega) h2 h3 h4 h5 h6) hl hT hK hR hA
theorem namesN_words {ts : List Tok} {bad : Bool} : namesN ⟨wordsOf b ts, bad⟩ = if bad then ([], ⟨wordsOf b ts, true⟩) else ((namesL (wordsOf b ts)).1, ⟨(namesL (wordsOf b ts)).2, false⟩) := by
  unfold namesN
  cases bad <;> rfl
theorem names_ok {H : Heap} {ts : List Tok} {bad : Bool} (hR : RdB R H p b ts bad) (hT : ∀ t ∈ ts, TG b t) (hb : b.length ≤ 8192) (hl : ts.length ≤ 8192) :
    ∃ w H' ts', Cl 37 [ptr p 0] H w H' ∧ Keep (But H p) H H' ∧ RdB R H' p b ts' bad ∧ ts' <:+ ts ∧ (namesN ⟨wordsOf b ts, bad⟩).2 = ⟨wordsOf b ts', bad⟩ ∧
      Acc (all H) H' 1 w (namesN ⟨wordsOf b ts, bad⟩).1.length (STRL (namesN ⟨wordsOf b ts, bad⟩).1) := by
  obtain ⟨H2, c1, k2, r2⟩ := may_ok hR hT hb 1 []
  rw [namesN_words]
  have stop : (nextS b 1 [] ts bad) = ([], false) → ∃ w H', Cl 37 [ptr p 0] H w H' ∧ Keep (But H p) H H' ∧ RdB R H' p b ts bad ∧ Acc (all H) H' 1 w 0 (STRL []) := by
    intro e
    rw [e] at c1 r2
    have hs : Ev (fun n m => f37_L0 real (AC n) n m (ptr p 0) nilS (.string (bs [])) (.bool false) H2) (nilS, H2) := by
      refine Ev.step (fun n m => f37_L0.eq_2 _ _ _ _ _ _ _ _ _) ?_
      simp only [ruA, ruB, ruC, ruE, ruD, lenStr, Int.reduceBEq, Int.reduceBNe]
      exact Ev.pure _
    refine ⟨nilS, H2, ?_, k2, r2, Acc.nil⟩
    refine Ev.enter (fun n => f37_eq rfl n _ _) ?_
    simp only [f37, ruA, ruB, ruC, ruE, ruD, lenStr, Int.reduceBEq, Int.reduceBNe]
    refine Ev.callC c1 ?_
    simp only [ruA, ruB, ruC, ruE, ruD, lenStr, Int.reduceBEq, Int.reduceBNe]
    exact hs.loop
  cases bad with
  | true =>
    obtain ⟨w, H', h1, h2, h3, h4⟩ := stop rfl
    exact ⟨w, H', ts, h1, h2, h3, List.suffix_refl _, rfl, h4⟩
  | false =>
    cases ts with
    | nil =>
      obtain ⟨w, H', h1, h2, h3, h4⟩ := stop rfl
      exact ⟨w, H', [], h1, h2, h3, List.suffix_refl _, rfl, h4⟩
    | cons t r =>
      by_cases hk : t.K = 1
      · rw [nextS_name, if_pos hk] at c1 r2
        simp only [List.length_cons] at hl
        obtain ⟨w, H', ts', q1, q2, q3, q4, q5, q6⟩ := names_loop (p := p) hR.2.1 hR.1.2 hb r.length r H2 nilS [] (saysN b t) (Nat.le_refl _) (by simp; omega) (fun u hu => hT u (by simp [hu])) k2 r2 Acc.nil
        rw [namesL_words hk]
        refine ⟨w, H', ts', ?_, q2, q3, q4.trans (List.suffix_cons t r), by simp only [Bool.false_eq_true, if_false, q5], q6⟩
        refine Ev.enter (fun n => f37_eq rfl n _ _) ?_
        simp only [f37, ruA, ruB, ruC, ruE, ruD, lenStr, Int.reduceBEq, Int.reduceBNe]
        refine Ev.callC c1 ?_
        simp only [ruA, ruB, ruC, ruE, ruD, lenStr, Int.reduceBEq, Int.reduceBNe]
        exact q1.loop
      · have e : namesL (wordsOf b (t :: r)) = ([], wordsOf b (t :: r)) := by simp [wordsOf, namesL, hk]
        obtain ⟨w, H', h1, h2, h3, h4⟩ := stop (by rw [nextS_name, if_neg hk])
        rw [e]
        exact ⟨w, H', t :: r, h1, h2, h3, List.suffix_refl _, rfl, h4⟩
end
end Go.Eng

/- The program's reader: a way. -/
set_option linter.unusedVariables false
set_option linter.unusedSimpArgs false
set_option maxRecDepth 100000
namespace Go.Eng
open Go Go.Proofs

theorem must_l {b : List UInt8} {ts ts' : List Tok} {bad : Bool} {k : Nat} {g : List UInt8} (h : (mustN k g ⟨wordsOf b ts, bad⟩).2.l = wordsOf b ts') : (mustN k g ⟨wordsOf b ts, bad⟩).2 = ⟨wordsOf b ts', (mustN k g ⟨wordsOf b ts, bad⟩).2.bad⟩ := by
  rw [← h]
theorem Acc.box {H0 H H' : Heap} {sz n q : Nat} {w : Value} {cs : List Value} (h : Acc (all H0) H sz w n cs) (hq : blkOf w ≠ some q) (hk : Keep (But H q) H H') : Acc (all H0) H' sz w n cs := by
  refine Acc.othr (v := ptr q 0) h (fun x e1 e2 => ?_) (hk.mono fun x hx => ⟨hx.1, fun e => hx.2 (by rw [e]; rfl)⟩)
  have : x = q := by simpa [blkOf] using e1.symm
  subst this
  exact hq e2
theorem upd_butQ {H : Heap} {q : Nat} {x : Option Blk} : Keep (But H q) H (H.upd q x) := Keep.upd fun h => h.2 rfl
theorem bldAl {H : Heap} {w : Value} (h1 : Eng.oneC w = true) (h2 : w.cells = #[w]) : bld [.slice none 0 0, .string ⟨#[]⟩] [(0, 1, w)] H = some (.agg #[w, .string ⟨#[]⟩], H) := by
  simp [bld, fillC, splice, h2]
theorem ld2 {H : Heap} {q : Nat} {x y : Value} (h : H.get q = some ⟨[x, y], 1, true⟩) : Eng.ldA 2 (ptr q 0) H = some (.agg #[x, y], H) := Box.all (R := fun _ => True) (cs := [x, y]) ⟨trivial, _, _, h⟩ rfl
theorem st2 {H : Heap} {q : Nat} {x y u v : Value} (h : H.get q = some ⟨[u, v], 1, true⟩) (hx : Eng.oneC x = true) (hy : Eng.oneC y = true) : stV 2 (ptr q 0) (.agg #[x, y]) H = some (undef, H.upd q (some ⟨[x, y], 1, true⟩)) := by
  have e : splice [u, v] 0 [x, y] = [x, y] := by simp [splice]
  simp only [stV, h, Value.cells, e]
  rw [if_pos ⟨rfl, by simp [hx, hy], by simp, Blk.w_mk⟩]
section
variable {R : Nat → Prop} {p : Nat} {b : List UInt8}
theorem alt_ok {H : Heap} {ts : List Tok} {bad : Bool} (hR : RdB R H p b ts bad) (hT : ∀ t ∈ ts, TG b t) (hb : b.length ≤ 8192) (hl : ts.length ≤ 8192) :
    ∃ vs H' ts' bad', Cl 56 [ptr p 0] H (.agg #[vs, .string (bs (altN ⟨wordsOf b ts, bad⟩).1.P)]) H' ∧ Keep (But H p) H H' ∧ RdB R H' p b ts' bad' ∧ ts' <:+ ts ∧ (altN ⟨wordsOf b ts, bad⟩).2 = ⟨wordsOf b ts', bad'⟩ ∧
      Acc (all H) H' 1 vs (altN ⟨wordsOf b ts, bad⟩).1.S.length (STRL (altN ⟨wordsOf b ts, bad⟩).1.S) := by
  have n0 : newV [.slice none 0 0, .string ⟨#[]⟩] H = some (ptr H.n 0, H.push ⟨[nilS, .string ⟨#[]⟩], 1, true⟩) := newV_box rfl
  have hp1 : Keep (all H) H (H.push ⟨[nilS, .string ⟨#[]⟩], 1, true⟩) := push_keep
  have hR1 : RdB R (H.push ⟨[nilS, .string ⟨#[]⟩], 1, true⟩) p b ts bad := hR.push
  have hg1 : (H.push ⟨[nilS, .string ⟨#[]⟩], 1, true⟩).get H.n = some ⟨[nilS, .string ⟨#[]⟩], 1, true⟩ := push_self
  have hn1 : (H.push ⟨[nilS, .string ⟨#[]⟩], 1, true⟩).n = H.n + 1 := push_n
  have hpn : p < H.n := hR.2.1
  generalize H.push ⟨[nilS, .string ⟨#[]⟩], 1, true⟩ = H1 at *
  obtain ⟨w, H2, ts2, c2, k2, r2, s2, e2, a2⟩ := names_ok hR1 hT hb hl
  obtain ⟨o1, o2⟩ := a2.oneC
  have hb2 := bldAl (H := H2) o1 o2
  have n2 : newV [.slice none 0 0, .string ⟨#[]⟩] H2 = some (ptr H2.n 0, H2.push ⟨[nilS, .string ⟨#[]⟩], 1, true⟩) := newV_box rfl
  have st : stV 2 (ptr H2.n 0) (.agg #[w, .string ⟨#[]⟩]) (H2.push ⟨[nilS, .string ⟨#[]⟩], 1, true⟩) = some (undef, H2.push ⟨[w, .string ⟨#[]⟩], 1, true⟩) := stA_push (ds := [w, .string ⟨#[]⟩]) rfl rfl (by simp [o1]; rfl)
  have k3 : Keep (all H2) H2 (H2.push ⟨[w, .string ⟨#[]⟩], 1, true⟩) := push_keep
  have r3 : RdB R (H2.push ⟨[w, .string ⟨#[]⟩], 1, true⟩) p b ts2 bad := r2.push
  have a3 := a2.keep k3
  have g3 : (H2.push ⟨[w, .string ⟨#[]⟩], 1, true⟩).get H2.n = some ⟨[w, .string ⟨#[]⟩], 1, true⟩ := push_self
  have hw2 : ∀ q, blkOf w = some q → H1.n ≤ q ∧ q < H2.n := fun q e => by
    have := a2.at e
    exact ⟨Nat.le_of_not_lt this.1, this.2⟩
  have hn3 : (H2.push ⟨[w, .string ⟨#[]⟩], 1, true⟩).n = H2.n + 1 := push_n
  have hn2 : H1.n ≤ H2.n := k2.1
  have gA3 : (H2.push ⟨[w, .string ⟨#[]⟩], 1, true⟩).get H.n = some ⟨[nilS, .string ⟨#[]⟩], 1, true⟩ := by
    rw [push_lt (by omega), k2.2 H.n ⟨by omega, by omega⟩]; exact hg1
  generalize H2.push ⟨[w, .string ⟨#[]⟩], 1, true⟩ = H3 at *
  have hT2 : ∀ t ∈ ts2, TG b t := fun t ht => hT t (s2.mem ht)
  obtain ⟨H4, c4, k4, r4⟩ := may_ok r3 hT2 hb 13 []
  have a4 : Acc (all H1) H4 1 w (namesN ⟨wordsOf b ts, bad⟩).1.length (STRL (namesN ⟨wordsOf b ts, bad⟩).1) := a3.box (fun e => by have := hw2 p e; omega) k4
  have g4 : H4.get H2.n = some ⟨[w, .string ⟨#[]⟩], 1, true⟩ := by rw [k4.2 _ ⟨by omega, by omega⟩]; exact g3
  have gA4 : H4.get H.n = some ⟨[nilS, .string ⟨#[]⟩], 1, true⟩ := by rw [k4.2 _ ⟨by omega, by omega⟩]; exact gA3
  have K4 : Keep (But H p) H H4 := ((hp1.mono (all_but H p)).trans (k2.mono (but_up hp1.1))).trans ((k3.mono fun q hq => Nat.lt_of_lt_of_le hq.1 (Nat.le_trans hp1.1 k2.1)).trans (k4.mono (but_up (Nat.le_trans hp1.1 (Nat.le_trans k2.1 k3.1)))))
  have hn4 : H3.n ≤ H4.n := k4.1
  -- the end
  have fin : ∀ {H5 : Heap} {s : List UInt8}, H4.n ≤ H5.n → H5.get H2.n = some ⟨[w, .string (bs s)], 1, true⟩ → H5.get H.n = some ⟨[nilS, .string ⟨#[]⟩], 1, true⟩ →
      Ev (fun n m => f56_J1 real (AC n) n (ptr H.n 0) (ptr H2.n 0) H5) (.agg #[w, .string (bs s)], H5.upd H.n (some ⟨[w, .string (bs s)], 1, true⟩)) := by
    intro H5 s _ h1 h2
    have l1 := ld2 h1
    have l2 := st2 (x := w) (y := .string (bs s)) h2 o1 rfl
    have l3 := ld2 (H := H5.upd H.n (some ⟨[w, .string (bs s)], 1, true⟩)) (q := H.n) (x := w) (y := .string (bs s)) upd_self
    simp only [f56_J1, ruA, ruB, ruC, ruE, ruD, lenStr, Int.reduceBEq, Int.reduceBNe, l1, l2, l3, Option.map_some, resM1, one1]
    exact Ev.pure _
  have hwH : blkOf w ≠ some H.n := fun e => by have := hw2 _ e; omega
  cases hok : (nextS b 13 [] ts2 bad).2 with
  | false =>
    rw [hok] at c4 r4
    have hi : isN 13 [] (namesN ⟨wordsOf b ts, bad⟩).2 = false := by rw [e2, ← nextS_is]; exact hok
    have ea : altN ⟨wordsOf b ts, bad⟩ = (⟨(namesN ⟨wordsOf b ts, bad⟩).1, []⟩, (namesN ⟨wordsOf b ts, bad⟩).2) := by
      unfold altN; rw [hi]; rfl
    rw [ea]
    have ku : Keep (But H4 H.n) H4 (H4.upd H.n (some ⟨[w, .string (bs [])], 1, true⟩)) := upd_butQ
    refine ⟨w, H4.upd H.n (some ⟨[w, .string (bs [])], 1, true⟩), ts2, bad, ?_, K4.trans (ku.mono fun q hq => ⟨by have := hq.1; omega, by have := hq.1; omega⟩), ?_, s2, e2, (a4.box hwH ku).low fun q hq => by have : q < H.n := hq; show q < H1.n; omega⟩
    · refine Ev.enter (fun n => f56_eq rfl n _ _) ?_
      simp only [f56, ruA, ruB, ruC, ruE, ruD, lenStr, Int.reduceBEq, Int.reduceBNe, n0]
      refine Ev.callC c2 ?_
      simp only [ruA, ruB, ruC, ruE, ruD, lenStr, Int.reduceBEq, Int.reduceBNe, hb2, n2, st]
      refine Ev.callC c4 ?_
      simp only [ruA, ruB, ruC, ruE, ruD, lenStr, Int.reduceBEq, Int.reduceBNe]
      exact fin (Nat.le_refl _) g4 gA4
    · exact RdB.move r4 (ku.mono fun q hq => ⟨r4.1.2 q hq, fun e => by have := hR.1.2 q hq; omega⟩) (ku.2 p ⟨r4.2.1, by omega⟩)
  | true =>
    rw [hok] at c4 r4
    obtain ⟨t, r, rfl, rfl, _⟩ := nextS_head hok
    obtain ⟨s, H5, ts5, c5, k5, r5, l5, s5, v5⟩ := must_ok r4 (fun u hu => hT2 u (by simp only [if_true, List.tail_cons] at hu; simp [hu])) hb 1 []
    have hi : isN 13 [] (namesN ⟨wordsOf b ts, false⟩).2 = true := by rw [e2, ← nextS_is]; exact hok
    have enx : (namesN ⟨wordsOf b ts, false⟩).2.next = ⟨wordsOf b r, false⟩ := by rw [e2]; rfl
    have ea : altN ⟨wordsOf b ts, false⟩ = (⟨(namesN ⟨wordsOf b ts, false⟩).1, (mustN 1 [] ⟨wordsOf b r, false⟩).1⟩, (mustN 1 [] ⟨wordsOf b r, false⟩).2) := by
      unfold altN; rw [hi, enx]; rfl
    simp only [if_true, List.tail_cons] at c5 k5 r5 l5 s5 v5
    have v5 := v5 (by omega)
    rw [ea, must_l l5]
    have g5 : H5.get H2.n = some ⟨[w, .string ⟨#[]⟩], 1, true⟩ := by rw [k5.2 _ ⟨by omega, by omega⟩]; exact g4
    have gA5 : H5.get H.n = some ⟨[nilS, .string ⟨#[]⟩], 1, true⟩ := by rw [k5.2 _ ⟨by omega, by omega⟩]; exact gA4
    have a5 := a4.box (fun e => by have := hw2 p e; omega) k5
    have st5 : stV 1 (ptr H2.n 1) (.string (bs s)) H5 = some (undef, H5.upd H2.n (some ⟨[w, .string (bs s)], 1, true⟩)) := stV1_box g5 (by simp) rfl rfl
    have k6 : Keep (But H5 H2.n) H5 (H5.upd H2.n (some ⟨[w, .string (bs s)], 1, true⟩)) := upd_butQ
    have a6 := a5.box (fun e => by have := hw2 _ e; omega) k6
    have g6 : (H5.upd H2.n (some ⟨[w, .string (bs s)], 1, true⟩)).get H2.n = some ⟨[w, .string (bs s)], 1, true⟩ := upd_self
    have hn5 : H4.n ≤ H5.n := k5.1
    have gA6 : (H5.upd H2.n (some ⟨[w, .string (bs s)], 1, true⟩)).get H.n = some ⟨[nilS, .string ⟨#[]⟩], 1, true⟩ := by rw [k6.2 _ ⟨by omega, by omega⟩]; exact gA5
    have r6 := RdB.move r5 (k6.mono fun q hq => ⟨r5.1.2 q hq, fun e => by have := hR.1.2 q hq; omega⟩) (k6.2 p ⟨r5.2.1, by omega⟩)
    generalize hH6 : H5.upd H2.n (some ⟨[w, .string (bs s)], 1, true⟩) = H6 at *
    have ku : Keep (But H6 H.n) H6 (H6.upd H.n (some ⟨[w, .string (bs s)], 1, true⟩)) := upd_butQ
    have hn6 : H5.n ≤ H6.n := k6.1
    refine ⟨w, H6.upd H.n (some ⟨[w, .string (bs s)], 1, true⟩), ts5, _, ?_, (K4.trans (k5.mono fun q hq => ⟨by have := hq.1; omega, hq.2⟩)).trans ((k6.mono fun q hq => ⟨by have := hq.1; omega, by have := hq.1; omega⟩).trans (ku.mono fun q hq => ⟨by have := hq.1; omega, by have := hq.1; omega⟩)), ?_, (s5.trans (List.suffix_cons t r)).trans s2, rfl, (a6.box hwH ku).low fun q hq => by have : q < H.n := hq; show q < H1.n; omega⟩
    · rw [← v5]
      refine Ev.enter (fun n => f56_eq rfl n _ _) ?_
      simp only [f56, ruA, ruB, ruC, ruE, ruD, lenStr, Int.reduceBEq, Int.reduceBNe, n0]
      refine Ev.callC c2 ?_
      simp only [ruA, ruB, ruC, ruE, ruD, lenStr, Int.reduceBEq, Int.reduceBNe, hb2, n2, st]
      refine Ev.callC c4 ?_
      simp only [ruA, ruB, ruC, ruE, ruD, lenStr, Int.reduceBEq, Int.reduceBNe]
      refine Ev.callC c5 ?_
      simp only [ruA, ruB, ruC, ruE, ruD, lenStr, Int.reduceBEq, Int.reduceBNe, st5, hH6]
      exact fin (by omega) g6 gA6
    · exact RdB.move r6 (ku.mono fun q hq => ⟨r6.1.2 q hq, fun e => by have := hR.1.2 q hq; omega⟩) (ku.2 p ⟨r6.2.1, by omega⟩)
end
end Go.Eng

/- The program's reader: a rule. -/
set_option linter.unusedVariables false
set_option linter.unusedSimpArgs false
set_option maxRecDepth 100000
namespace Go.Eng
open Go Go.Proofs

/-- What has been made since, but for what is written. -/
def Nst (H0 H : Heap) (X : Nat → Prop) (v : Value) : Nat → Prop := fun q => H0.n ≤ q ∧ q < H.n ∧ ¬ X q ∧ blkOf v ≠ some q
/-- A list of one's own, of things made since. -/
def AccN {α : Type} [Rp α] (H0 H : Heap) (X : Nat → Prop) (v : Value) (xs : List α) : Prop := ∃ cs, Acc (all H0) H (Rp.sz α) v xs.length cs ∧ RpL (Nst H0 H X v) H xs cs
section
variable {α : Type} [Rp α] {H0 H H' : Heap} {X : Nat → Prop} {v : Value} {xs : List α}
theorem AccN.nil : AccN H0 H X nilS ([] : List α) := ⟨[], Acc.nil, .nil⟩
theorem AccN.keep (h : AccN H0 H X v xs) (hv : ∀ q, blkOf v = some q → ¬ X q) (hk : Keep (fun q => H0.n ≤ q ∧ q < H.n ∧ ¬ X q) H H') : AccN H0 H' X v xs := by
  obtain ⟨cs, h1, h2⟩ := h
  have hm : ∀ q, Nst H0 H X v q → Nst H0 H' X v q := fun q hq => ⟨hq.1, Nat.lt_of_lt_of_le hq.2.1 hk.1, hq.2.2⟩
  refine ⟨cs, ?_, (h2.keep (hk.mono fun q hq => ⟨hq.1, hq.2.1, hq.2.2.1⟩)).mono hm⟩
  rcases h1 with h | ⟨q, rfl, g2, g3, g4, g5⟩
  · exact .inl h
  · exact .inr ⟨q, rfl, g2, Nat.lt_of_lt_of_le g3 hk.1, by rw [hk.2 q ⟨Nat.le_of_not_lt g2, g3, hv q rfl⟩]; exact g4, g5⟩
/-- One more. -/
theorem AccN.add {by_ : Nat} {x : α} {c : List Value} (h : AccN H0 H X v xs) (hn : H0.n ≤ H.n) (hx : ∀ {H2 : Heap} {R2 : Nat → Prop}, (∀ q, Nst H0 H X v q → R2 q) → Keep (Nst H0 H X v) H H2 → Rp.rep R2 H2 x c) (hc : c.length = Rp.sz α) (hb : (xs.length + 1) * by_ ≤ mostBytes) :
    ∃ v' H', Eng.app (Rp.sz α) by_ v (.slice (some ⟨H.n, 0, none⟩) 1 1) (H.push ⟨c, Rp.sz α, true⟩) = some (v', H') ∧ AccN H0 H' X v' (xs ++ [x]) ∧ Keep (fun q => q < H.n ∧ blkOf v ≠ some q) H H' ∧ (∀ q, blkOf v' = some q → blkOf v = some q ∨ H.n ≤ q) := by
  obtain ⟨cs, h1, h2⟩ := h
  have hp : Keep (all H) H (H.push ⟨c, Rp.sz α, true⟩) := push_keep
  obtain ⟨v', H', g1, g2, g3, g4, g5, g6⟩ := (h1.keep hp).appQ (by_ := by_) (Nat.le_trans hn hp.1) (addend_push (n := 1) (by rw [hc, Nat.one_mul])) (by rw [hc, Nat.one_mul]) hb
  have K : Keep (fun q => q < H.n ∧ blkOf v ≠ some q) H H' := (hp.mono fun q hq => hq.1).trans (g4.mono fun q hq => ⟨Nat.lt_of_lt_of_le hq.1 hp.1, hq.2⟩)
  have hnew : ∀ q, blkOf v' = some q → blkOf v = some q ∨ H.n ≤ q := fun q e => by
    rcases g5 q e with h | h
    · exact .inl h
    · right; exact Nat.le_trans hp.1 h
  have hm : ∀ q, Nst H0 H X v q → Nst H0 H' X v' q := fun q hq => ⟨hq.1, Nat.lt_of_lt_of_le hq.2.1 K.1, hq.2.2.1, fun e => by
    rcases hnew q e with h | h
    · exact hq.2.2.2 h
    · have := hq.2.1; omega⟩
  have hk2 : Keep (Nst H0 H X v) H H' := K.mono fun q hq => ⟨hq.2.1, hq.2.2.2⟩
  exact ⟨v', H', g1, ⟨cs ++ c, by simpa using g2, ((h2.keep hk2).mono hm).append (RpL.single (hx hm hk2))⟩, K, hnew⟩
end
theorem bldS2 {H : Heap} {x : Value} {y : ByteArray} (h1 : Eng.oneC x = true) (h2 : x.cells = #[x]) : bldS 2 1 [.slice none 0 0, .string ⟨#[]⟩] [(0, 2, .agg #[x, .string y])] H = some (.slice (some ⟨H.n, 0, none⟩) 1 1, H.push ⟨[x, .string y], 2, true⟩) := by
  have e : fillC (rep 1 [.slice none 0 0, .string ⟨#[]⟩]) [(0, 2, .agg #[x, .string y])] = some [x, .string y] := rfl
  have hall : ([x, .string y] : List Value).all Eng.oneC = true := by simp [h1]; rfl
  simp only [bldS, e, newS, hall, if_true]
section
variable {R : Nat → Prop} {H0 : Heap} {p q2 q3 : Nat} {b : List UInt8}
def X2 (q2 q3 : Nat) : Nat → Prop := fun q => q = q2 ∨ q = q3
theorem rule_head (hp0 : p < H0.n) (hRb : Rb R H0) (hb : b.length ≤ 8192) (h23 : q2 ≠ q3) (h2 : H0.n ≤ q2) (h3 : H0.n ≤ q3) {nm : List UInt8} {ts : List Tok} {bad : Bool} {H : Heap} {v : Value} {pre : List Al} (hl : pre.length + ts.length ≤ 8192) (hT : ∀ t ∈ ts, TG b t)
    (hK : Keep (But H0 p) H0 H) (hR : RdB R H p b ts bad) (l2 : q2 < H.n) (l3 : q3 < H.n) (g2 : H.get q2 = some ⟨[.string ⟨#[]⟩, nilS], 1, true⟩) (g3 : H.get q3 = some ⟨[.string (bs nm), v], 1, true⟩) (hA : AccN H0 H (X2 q2 q3) v pre) (hv : ∀ q, blkOf v = some q → ¬ X2 q2 q3 q) :
    ∃ v' H4 ts1 bad1, (∀ {r : Value × Heap}, (Ev (fun n m => if (nextS b 4 [124] ts1 bad1).2 then f36_L0 real (AC n) n m (ptr p 0) (ptr q2 0) (ptr q3 0) (.bool true) H4 else some (.agg #[.string (bs nm), v'], H4.upd q2 (some ⟨[.string (bs nm), v'], 1, true⟩))) r) →
        Ev (fun n m => f36_L0 real (AC n) n m (ptr p 0) (ptr q2 0) (ptr q3 0) (.bool true) H) r) ∧ Keep (But H0 p) H0 H4 ∧ RdB R H4 p b (if (nextS b 4 [124] ts1 bad1).2 then ts1.tail else ts1) bad1 ∧ ts1 <:+ ts ∧ (altN ⟨wordsOf b ts, bad⟩).2 = ⟨wordsOf b ts1, bad1⟩ ∧
      H.n ≤ H4.n ∧ H4.get q2 = some ⟨[.string ⟨#[]⟩, nilS], 1, true⟩ ∧ H4.get q3 = some ⟨[.string (bs nm), v'], 1, true⟩ ∧ AccN H0 H4 (X2 q2 q3) v' (pre ++ [(altN ⟨wordsOf b ts, bad⟩).1]) ∧ (∀ q, blkOf v' = some q → ¬ X2 q2 q3 q) := by
  have hm : mostBytes = 140737488355328 := rfl
  obtain ⟨vs, H1, ts1, bad1, c1, k1, r1, s1, e1, a1⟩ := alt_ok hR hT hb (by omega)
  have hn1 : H.n ≤ H1.n := k1.1
  have hn0 : H0.n ≤ H.n := hK.1
  have ld : ldC (ptr q3 1) H = some (v, H) := Box.ld (R := fun _ => True) ⟨trivial, _, _, g3⟩ rfl
  have hck : sameBlk H H1 (blkOf (ptr q3 1)) = true := Box.blk (R := But H p) ⟨⟨l3, by omega⟩, _, _, g3⟩ k1
  have hA1 : AccN H0 H1 (X2 q2 q3) v pre := hA.keep hv (k1.mono fun q hq => ⟨hq.2.1, by have := hq.1; omega⟩)
  have hvlt : ∀ q, blkOf v = some q → q < H.n := fun q e => by
    obtain ⟨cs, h, _⟩ := hA
    exact (h.at e).2
  obtain ⟨o1, o2⟩ := a1.oneC
  have hsl : Sl (Nst H0 H1 (X2 q2 q3) v) H1 1 vs (altN ⟨wordsOf b ts, bad⟩).1.S.length (STRL (altN ⟨wordsOf b ts, bad⟩).1.S) := a1.read fun q h1 h2 => by
    have hge : H.n ≤ q := Nat.le_of_not_lt h1
    refine ⟨by omega, h2, fun hx => ?_, fun e => by have := hvlt q e; omega⟩
    rcases hx with rfl | rfl <;> omega
  obtain ⟨v', H2, g4, g5, g6, g7⟩ := hA1.add (by_ := 40) (x := (altN ⟨wordsOf b ts, bad⟩).1) (c := [vs, .string (bs (altN ⟨wordsOf b ts, bad⟩).1.P)]) (by omega) (fun hm hk => rep_al.2 ⟨vs, rfl, (Sl.keep hsl hk).mono hm⟩) rfl (by omega)
  have hn2 : H1.n ≤ H2.n := g6.1
  have hv' : ∀ q, blkOf v' = some q → ¬ X2 q2 q3 q := fun q e => by
    rcases g7 q e with h | h
    · exact hv q h
    · intro hx; rcases hx with rfl | rfl <;> omega
  have q3v : blkOf v ≠ some q3 := fun e => hv q3 e (.inr rfl)
  have q2v : blkOf v ≠ some q2 := fun e => hv q2 e (.inl rfl)
  have gg3 : H2.get q3 = some ⟨[.string (bs nm), v], 1, true⟩ := by rw [g6.2 q3 ⟨by omega, q3v⟩, k1.2 q3 ⟨l3, by omega⟩]; exact g3
  have gg2 : H2.get q2 = some ⟨[.string ⟨#[]⟩, nilS], 1, true⟩ := by rw [g6.2 q2 ⟨by omega, q2v⟩, k1.2 q2 ⟨l2, by omega⟩]; exact g2
  have pv : blkOf v ≠ some p := fun e => by
    obtain ⟨cs, h, _⟩ := hA
    exact (h.at e).1 hp0
  have r2 : RdB R H2 p b ts1 bad1 := r1.move (g6.mono fun q hq => ⟨r1.1.2 q hq, fun e => by
    obtain ⟨cs, h, _⟩ := hA
    exact (h.at e).1 (hRb q hq)⟩) (g6.2 p ⟨r1.2.1, pv⟩)
  obtain ⟨ov1, ov2⟩ : Eng.oneC v' = true ∧ v'.cells = #[v'] := by
    obtain ⟨cs, h, _⟩ := g5
    exact h.oneC
  have st : stV 1 (ptr q3 1) v' H2 = some (undef, H2.upd q3 (some ⟨[.string (bs nm), v'], 1, true⟩)) := stV1_box gg3 (by simp) ov2 ov1
  have k3 : Keep (But H2 q3) H2 (H2.upd q3 (some ⟨[.string (bs nm), v'], 1, true⟩)) := upd_butQ
  have hA3 := g5.keep hv' (k3.mono fun q hq => ⟨hq.2.1, fun e => hq.2.2 (.inr e)⟩)
  have r3 : RdB R (H2.upd q3 (some ⟨[.string (bs nm), v'], 1, true⟩)) p b ts1 bad1 := r2.move (k3.mono fun q hq => ⟨r2.1.2 q hq, fun e => by have := hRb q hq; omega⟩) (k3.2 p ⟨r2.2.1, by omega⟩)
  have gh3 : (H2.upd q3 (some ⟨[.string (bs nm), v'], 1, true⟩)).get q3 = some ⟨[.string (bs nm), v'], 1, true⟩ := upd_self
  have gh2 : (H2.upd q3 (some ⟨[.string (bs nm), v'], 1, true⟩)).get q2 = some ⟨[.string ⟨#[]⟩, nilS], 1, true⟩ := by rw [k3.2 q2 ⟨by omega, h23⟩]; exact gg2
  have hn3 : H2.n ≤ (H2.upd q3 (some ⟨[.string (bs nm), v'], 1, true⟩)).n := k3.1
  generalize hH3 : H2.upd q3 (some ⟨[.string (bs nm), v'], 1, true⟩) = H3 at *
  obtain ⟨H4, c4, k4, r4⟩ := may_ok r3 (fun t ht => hT t (s1.mem ht)) hb 4 [124]
  have hn4 : H3.n ≤ H4.n := k4.1
  have gi3 : H4.get q3 = some ⟨[.string (bs nm), v'], 1, true⟩ := by rw [k4.2 q3 ⟨by omega, by omega⟩]; exact gh3
  have gi2 : H4.get q2 = some ⟨[.string ⟨#[]⟩, nilS], 1, true⟩ := by rw [k4.2 q2 ⟨by omega, by omega⟩]; exact gh2
  have hA4 := hA3.keep hv' (k4.mono fun q hq => ⟨hq.2.1, by have := hq.1; omega⟩)
  refine ⟨v', H4, ts1, bad1, fun {r} g => ?_, ?_, r4, s1, e1, by omega, gi2, gi3, hA4, hv'⟩
  · refine Ev.step (fun n m => f36_L0.eq_2 _ _ _ _ _ _ _ _ _) ?_
    simp only [ruA, ruB, ruC, ruE, ruD, lenStr, Int.reduceBEq, Int.reduceBNe, ld]
    refine Ev.callC c1 ?_
    have g4' : Eng.app 2 40 v (.slice (some ⟨H1.n, 0, none⟩) 1 1) (H1.push ⟨[vs, .string (bs (altN ⟨wordsOf b ts, bad⟩).1.P)], 2, true⟩) = some (v', H2) := g4
    simp only [ruA, ruB, ruC, ruE, ruD, lenStr, Int.reduceBEq, Int.reduceBNe, hck, Bool.and_true, bldS2 o1 o2, g4', st, hH3]
    refine Ev.callC c4 ?_
    cases hok : (nextS b 4 [124] ts1 bad1).2 with
    | true =>
      rw [hok] at g
      simp only [ruA, ruB, ruC, ruE, ruD, lenStr, Int.reduceBEq, Int.reduceBNe]
      exact g
    | false =>
      rw [hok] at g
      have l1 := ld2 gi3
      have s1 := st2 (x := .string (bs nm)) (y := v') gi2 rfl ov1
      have l3' := ld2 (H := H4.upd q2 (some ⟨[.string (bs nm), v'], 1, true⟩)) (q := q2) (x := .string (bs nm)) (y := v') upd_self
      simp only [ruA, ruB, ruC, ruE, ruD, lenStr, Int.reduceBEq, Int.reduceBNe]
      simp only [Bool.false_eq_true, if_false] at g
      refine Ev.step (fun n m => f36_L0.eq_2 _ _ _ _ _ _ _ _ _) ?_
      simp only [ruA, ruB, ruC, ruE, ruD, lenStr, Int.reduceBEq, Int.reduceBNe, l1, s1, l3', Option.map_some, resM1, one1]
      exact g
  · exact ((hK.trans (k1.mono fun q hq => ⟨Nat.lt_of_lt_of_le hq.1 hK.1, hq.2⟩)).trans (g6.mono fun q hq => ⟨by have := hq.1; omega, fun e => by
      obtain ⟨cs, h, _⟩ := hA
      exact (h.at e).1 hq.1⟩)).trans ((k3.mono fun q hq => ⟨by have := hq.1; omega, by have := hq.1; omega⟩).trans (k4.mono fun q hq => ⟨by have := hq.1; omega, hq.2⟩))
theorem rule_loop (hp0 : p < H0.n) (hRb : Rb R H0) (hb : b.length ≤ 8192) (h23 : q2 ≠ q3) (h2 : H0.n ≤ q2) (h3 : H0.n ≤ q3) {nm : List UInt8} : ∀ (n : Nat) (ts : List Tok) (bad : Bool) (H : Heap) (v : Value) (pre : List Al), ts.length ≤ n → pre.length + ts.length ≤ 8192 → (∀ t ∈ ts, TG b t) →
    Keep (But H0 p) H0 H → RdB R H p b ts bad → q2 < H.n → q3 < H.n → H.get q2 = some ⟨[.string ⟨#[]⟩, nilS], 1, true⟩ → H.get q3 = some ⟨[.string (bs nm), v], 1, true⟩ → AccN H0 H (X2 q2 q3) v pre → (∀ q, blkOf v = some q → ¬ X2 q2 q3 q) →
    ∃ w H' ts' bad', Ev (fun n m => f36_L0 real (AC n) n m (ptr p 0) (ptr q2 0) (ptr q3 0) (.bool true) H) (.agg #[.string (bs nm), w], H') ∧ Keep (But H0 p) H0 H' ∧ RdB R H' p b ts' bad' ∧ ts' <:+ ts ∧
      (altsF n ⟨wordsOf b ts, bad⟩).2 = ⟨wordsOf b ts', bad'⟩ ∧ AccN H0 H' (X2 q2 q3) w (pre ++ (altsF n ⟨wordsOf b ts, bad⟩).1) ∧ (∀ q, blkOf w = some q → ¬ X2 q2 q3 q) := by
  intro n
  induction n with
  | zero =>
    intro ts bad H v pre hn hl hT hK hR l2 l3 g2 g3 hA hv
    obtain ⟨v', H4, ts1, bad1, step, k, r, s, e, hn', gi2, gi3, hA', hv'⟩ := rule_head hp0 hRb hb h23 h2 h3 hl hT hK hR l2 l3 g2 g3 hA hv
    have : ts = [] := List.length_eq_zero_iff.1 (by omega)
    subst this
    have : ts1 = [] := List.suffix_nil.1 s
    subst this
    have hx : (nextS b 4 [124] [] bad1).2 = false := by unfold nextS; split <;> rfl
    rw [hx] at r step
    have ku : Keep (But H4 q2) H4 (H4.upd q2 (some ⟨[.string (bs nm), v'], 1, true⟩)) := upd_butQ
    refine ⟨v', H4.upd q2 (some ⟨[.string (bs nm), v'], 1, true⟩), [], bad1, step (Ev.pure _), k.trans (ku.mono fun q hq => ⟨Nat.lt_of_lt_of_le hq.1 k.1, by have := hq.1; omega⟩), ?_, List.suffix_refl _, e, ?_, hv'⟩
    · exact RdB.move r (ku.mono fun q hq => ⟨r.1.2 q hq, fun e => by have := hRb q hq; omega⟩) (ku.2 p ⟨r.2.1, by omega⟩)
    · exact hA'.keep hv' (ku.mono fun q hq => ⟨hq.2.1, fun e => hq.2.2 (.inl e)⟩)
  | succ n ih =>
    intro ts bad H v pre hn hl hT hK hR l2 l3 g2 g3 hA hv
    obtain ⟨v', H4, ts1, bad1, step, k, r, s, e, hn', gi2, gi3, hA', hv'⟩ := rule_head hp0 hRb hb h23 h2 h3 hl hT hK hR l2 l3 g2 g3 hA hv
    have hsl := s.length_le
    have his : isN 4 [124] (altN ⟨wordsOf b ts, bad⟩).2 = (nextS b 4 [124] ts1 bad1).2 := by rw [e, nextS_is]
    cases hx : (nextS b 4 [124] ts1 bad1).2 with
    | true =>
      rw [hx] at r step his
      obtain ⟨t, r0, rfl, rfl, _⟩ := nextS_head hx
      simp only [List.length_cons] at hsl
      simp only [if_true, List.tail_cons] at r step
      obtain ⟨w, H', ts', bad', q1, q2', q3', q4, q5, q6, q7⟩ := ih r0 false H4 v' (pre ++ [(altN ⟨wordsOf b ts, bad⟩).1]) (by omega) (by simp only [List.length_append, List.length_cons, List.length_nil]; omega) (fun u hu => hT u (s.mem (by simp [hu]))) k r (by omega) (by omega) gi2 gi3 hA' hv'
      have enx : (altN ⟨wordsOf b ts, bad⟩).2.next = ⟨wordsOf b r0, false⟩ := by rw [e]; rfl
      have ea : altsF (n + 1) ⟨wordsOf b ts, bad⟩ = ((altN ⟨wordsOf b ts, bad⟩).1 :: (altsF n ⟨wordsOf b r0, false⟩).1, (altsF n ⟨wordsOf b r0, false⟩).2) := by
        simp only [altsF, his, if_true, enx]
      rw [ea]
      refine ⟨w, H', ts', bad', step q1, q2', q3', (q4.trans (List.suffix_cons t r0)).trans s, q5, ?_, q7⟩
      simpa using q6
    | false =>
      rw [hx] at r step his
      have ea : altsF (n + 1) ⟨wordsOf b ts, bad⟩ = ([(altN ⟨wordsOf b ts, bad⟩).1], (altN ⟨wordsOf b ts, bad⟩).2) := by
        simp only [altsF, his, Bool.false_eq_true, if_false]
      rw [ea]
      have ku : Keep (But H4 q2) H4 (H4.upd q2 (some ⟨[.string (bs nm), v'], 1, true⟩)) := upd_butQ
      refine ⟨v', H4.upd q2 (some ⟨[.string (bs nm), v'], 1, true⟩), ts1, bad1, step (Ev.pure _), k.trans (ku.mono fun q hq => ⟨Nat.lt_of_lt_of_le hq.1 k.1, by have := hq.1; omega⟩), ?_, s, e, ?_, hv'⟩
      · exact RdB.move r (ku.mono fun q hq => ⟨r.1.2 q hq, fun e => by have := hRb q hq; omega⟩) (ku.2 p ⟨r.2.1, by omega⟩)
      · exact hA'.keep hv' (ku.mono fun q hq => ⟨hq.2.1, fun e => hq.2.2 (.inl e)⟩)
end
end Go.Eng

/- The program's reader: a rule, whole. -/
set_option linter.unusedVariables false
set_option linter.unusedSimpArgs false
set_option maxRecDepth 100000
namespace Go.Eng
open Go Go.Proofs

theorem bldRl {H : Heap} {s : ByteArray} : bld [.string ⟨#[]⟩, .slice none 0 0] [(0, 1, .string s)] H = some (.agg #[.string s, .slice none 0 0], H) := by kernel_rfl
section
variable {R : Nat → Prop} {p : Nat} {b : List UInt8}
theorem rule_ok {H : Heap} {ts : List Tok} {bad : Bool} (hR : RdB R H p b ts bad) (hT : ∀ t ∈ ts, TG b t) (hb : b.length ≤ 8192) (hl : ts.length ≤ 8192) :
    ∃ w H' ts' bad' X, Cl 36 [ptr p 0] H (.agg #[.string (bs (ruleN ⟨wordsOf b ts, bad⟩).1.N), w]) H' ∧ Keep (But H p) H H' ∧ RdB R H' p b ts' bad' ∧ ts' <:+ ts ∧ (ruleN ⟨wordsOf b ts, bad⟩).2 = ⟨wordsOf b ts', bad'⟩ ∧
      AccN H H' X w (ruleN ⟨wordsOf b ts, bad⟩).1.A := by
  have n0 : newV [.string ⟨#[]⟩, .slice none 0 0] H = some (ptr H.n 0, H.push ⟨[.string ⟨#[]⟩, nilS], 1, true⟩) := newV_box rfl
  have hp1 : Keep (all H) H (H.push ⟨[.string ⟨#[]⟩, nilS], 1, true⟩) := push_keep
  have hR1 : RdB R (H.push ⟨[.string ⟨#[]⟩, nilS], 1, true⟩) p b ts bad := hR.push
  have hg1 : (H.push ⟨[.string ⟨#[]⟩, nilS], 1, true⟩).get H.n = some ⟨[.string ⟨#[]⟩, nilS], 1, true⟩ := push_self
  have hn1 : (H.push ⟨[.string ⟨#[]⟩, nilS], 1, true⟩).n = H.n + 1 := push_n
  have hpn : p < H.n := hR.2.1
  generalize H.push ⟨[.string ⟨#[]⟩, nilS], 1, true⟩ = H1 at *
  obtain ⟨s, H2, ts2, c2, k2, r2, l2, s2, v2⟩ := must_ok hR1 hT hb 1 []
  have v2 := v2 (by omega)
  have n2 : newV [.string ⟨#[]⟩, .slice none 0 0] H2 = some (ptr H2.n 0, H2.push ⟨[.string ⟨#[]⟩, nilS], 1, true⟩) := newV_box rfl
  have st : stV 2 (ptr H2.n 0) (.agg #[.string (bs s), .slice none 0 0]) (H2.push ⟨[.string ⟨#[]⟩, nilS], 1, true⟩) = some (undef, H2.push ⟨[.string (bs s), nilS], 1, true⟩) := stA_push (ds := [.string (bs s), nilS]) rfl rfl rfl
  have k3 : Keep (all H2) H2 (H2.push ⟨[.string (bs s), nilS], 1, true⟩) := push_keep
  have r3 := RdB.push (blk := ⟨[.string (bs s), nilS], 1, true⟩) r2
  have g3 : (H2.push ⟨[.string (bs s), nilS], 1, true⟩).get H2.n = some ⟨[.string (bs s), nilS], 1, true⟩ := push_self
  have hn3 : (H2.push ⟨[.string (bs s), nilS], 1, true⟩).n = H2.n + 1 := push_n
  have hn2 : H1.n ≤ H2.n := k2.1
  have gA3 : (H2.push ⟨[.string (bs s), nilS], 1, true⟩).get H.n = some ⟨[.string ⟨#[]⟩, nilS], 1, true⟩ := by
    rw [push_lt (by omega), k2.2 H.n ⟨by omega, by omega⟩]; exact hg1
  generalize H2.push ⟨[.string (bs s), nilS], 1, true⟩ = H3 at *
  obtain ⟨s4, H4, ts4, c4, k4, r4, l4, s4', _⟩ := must_ok r3 (fun t ht => hT t (s2.mem ht)) hb 4 [58]
  have hn4 : H3.n ≤ H4.n := k4.1
  have g4 : H4.get H2.n = some ⟨[.string (bs s), nilS], 1, true⟩ := by rw [k4.2 _ ⟨by omega, by omega⟩]; exact g3
  have gA4 : H4.get H.n = some ⟨[.string ⟨#[]⟩, nilS], 1, true⟩ := by rw [k4.2 _ ⟨by omega, by omega⟩]; exact gA3
  have K4 : Keep (But H p) H H4 := ((hp1.mono (all_but H p)).trans (k2.mono (but_up hp1.1))).trans ((k3.mono fun q hq => Nat.lt_of_lt_of_le hq.1 (Nat.le_trans hp1.1 k2.1)).trans (k4.mono (but_up (Nat.le_trans hp1.1 (Nat.le_trans k2.1 k3.1)))))
  have hsl := s4'.length_le
  have hsl2 := s2.length_le
  obtain ⟨w, H', ts', bad', q1, q2, q3, q4, q5, q6, _⟩ := rule_loop (nm := s) (q2 := H.n) (q3 := H2.n) hpn hR.1.2 hb (by omega) (Nat.le_refl _) (by omega) ts4.length ts4 _ H4 nilS [] (Nat.le_refl _) (by simp; omega) (fun t ht => hT t (s2.mem (s4'.mem ht))) K4 r4 (by omega) (by omega) gA4 g4 AccN.nil (fun q e => by cases e)
  have er : ruleN ⟨wordsOf b ts, bad⟩ = (⟨s, (altsF ts4.length ⟨wordsOf b ts4, (mustN 4 [58] ⟨wordsOf b ts2, (mustN 1 [] ⟨wordsOf b ts, bad⟩).2.bad⟩).2.bad⟩).1⟩, (altsF ts4.length ⟨wordsOf b ts4, (mustN 4 [58] ⟨wordsOf b ts2, (mustN 1 [] ⟨wordsOf b ts, bad⟩).2.bad⟩).2.bad⟩).2) := by
    unfold ruleN
    rw [← v2, must_l l2, must_l l4]
    unfold altsN
    simp only [wordsOf, List.length_map]
  rw [er]
  refine ⟨w, H', ts', bad', _, ?_, q2, q3, (q4.trans s4').trans s2, q5, q6⟩
  refine Ev.enter (fun n => f36_eq rfl n _ _) ?_
  simp only [f36, ruA, ruB, ruC, ruE, ruD, lenStr, Int.reduceBEq, Int.reduceBNe, n0]
  refine Ev.callC c2 ?_
  simp only [ruA, ruB, ruC, ruE, ruD, lenStr, Int.reduceBEq, Int.reduceBNe, bldRl, n2, st]
  refine Ev.callC c4 ?_
  exact q1.loop
end
end Go.Eng
