import Derived.Test.YtiflkdemlhpibaaDoorJN
/- The law ImportsJust. -/
set_option linter.unusedVariables false
set_option linter.unusedSimpArgs false
set_option linter.unusedSectionVars false
set_option maxRecDepth 100000
namespace Go.Eng
open Go Go.Proofs

/-! ### plainly -/
def missB (l : List En) (ps : List (List UInt8)) : Bool := ps.any fun p => (findN l p).isNone
def ringB (l : List En) (n : Nat) (ps : List (List UInt8)) : Bool := ps.any fun p => decide ((n : Int) ∈ reachI p l)
def missA (l : List En) (ns : List Nat) : Bool := ns.any fun n => missB l (impN l n)
def ringA (l : List En) (ns : List Nat) : Bool := ns.any fun n => ringB l n (impN l n)
/-- What is asked of the answer. -/
def Fin (l : List En) (e : Int) (nm : List UInt8) (M R : Bool) : Prop := (e = 0 ∧ M = false ∧ R = false) ∨ (e = 160 ∧ M = true ∧ findN l nm = none) ∨ (e = 161 ∧ R = true ∧ ∃ k, findN l nm = some k)
theorem ring_out {l : List En} {s : Dfs} (hs : DInv l s) {n j : Nat} {p : List UInt8} (hn : n ∈ s.ord) (hp : p ∈ impN l n) (hf : findN l p = some j) (hr : Rch l j n) : False := by
  obtain ⟨a, b, hab⟩ := List.append_of_mem hn
  obtain ⟨j', hj', hja⟩ := hs.ahead a n b hab p hp
  rw [hf] at hj'; injection hj' with hj'; subst hj'
  obtain ⟨a1, a2, ha⟩ := List.append_of_mem hja
  have cl : ∀ x y, x ∈ a1 ++ [j] → edge l x y → y ∈ a1 ++ [j] := by
    rintro x y hx ⟨p', hp', hf'⟩
    rcases List.mem_append.1 hx with hx | hx
    · obtain ⟨c1, c2, hc⟩ := List.append_of_mem hx
      obtain ⟨y', h1, h2⟩ := hs.ahead c1 x (c2 ++ j :: (a2 ++ n :: b)) (by rw [hab, ha, hc]; simp) p' hp'
      rw [hf'] at h1; injection h1 with h1; subst h1
      rw [hc]; simp [h2]
    · simp only [List.mem_singleton] at hx; subst hx
      obtain ⟨y', h1, h2⟩ := hs.ahead a1 x (a2 ++ n :: b) (by rw [hab, ha]; simp) p' hp'
      rw [hf'] at h1; injection h1 with h1; subst h1
      simp [h2]
  have hn2 : n ∈ a1 ++ [j] := hr.closed (S := fun k => k ∈ a1 ++ [j]) cl (by simp)
  have nd := hs.nod
  rw [hab] at nd
  have : n ∈ a := by rw [ha]; rcases List.mem_append.1 hn2 with h | h
                     · simp [h]
                     · simp only [List.mem_singleton] at h; simp [h]
  exact (List.nodup_append.1 nd).2.2 n this n (by simp) rfl
/-- The answer is just. -/
theorem just_fin {l : List En} (hd : Dist l) (hn : l.length ≤ 31) {r : Nat} {e : En} (he : l[r]? = some e) : Fin l (orderN e.P l).2.2 (orderN e.P l).2.1 (missA l (reachN e.P l)) (ringA l (reachN e.P l)) := by
  have hm := may_small hd (by omega)
  have hf := find_self hd he
  have hr := (List.getElem?_eq_some_iff.1 he).1
  have w := dfs_root hr
  have mem : ∀ k, k ∈ reachN e.P l ↔ Rch l r k := fun k => by
    have := rnd_root l e.P k
    unfold reachN
    rw [this, hf]
    constructor
    · rintro ⟨i, hi, h⟩; injection hi with hi; subst hi; exact h
    · intro h; exact ⟨r, rfl, h⟩
  have e1 : orderN e.P l = match (dfs l 33 r (dfs0 l)).2 with
    | some (p, e) => ([], p, e)
    | none => ((dfs l 33 r (dfs0 l)).1.ord, [], 0) := by
    simp only [orderN, hf, hm]; rfl
  cases hr2 : (dfs l 33 r (dfs0 l)).2 with
  | some x =>
    rw [hr2] at w e1
    rw [e1]
    rcases w with ⟨_, h⟩ | ⟨h1, h2, y, h3, h4⟩ | ⟨h1, y, k, h2, h3, h4, h5⟩
    · omega
    · refine .inr (.inl ⟨h1, ?_, h2⟩)
      unfold missA missB
      rw [List.any_eq_true]
      refine ⟨y, (mem y).2 h3, ?_⟩
      rw [List.any_eq_true]
      exact ⟨x.1, h4, by rw [h2]; rfl⟩
    · refine .inr (.inr ⟨h1, ?_, k, h4⟩)
      unfold ringA ringB
      rw [List.any_eq_true]
      refine ⟨y, (mem y).2 h2, ?_⟩
      rw [List.any_eq_true]
      exact ⟨x.1, h3, decide_eq_true (reach_mem.2 ⟨k, h4, h5⟩)⟩
  | none =>
    rw [hr2] at w e1
    rw [e1]
    obtain ⟨w1, w2, _⟩ := w
    refine .inl ⟨rfl, ?_, ?_⟩
    · unfold missA missB
      rw [List.any_eq_false]
      intro n hn'
      rw [Bool.not_eq_true, List.any_eq_false]
      intro p hp
      obtain ⟨i, hi⟩ := List.mem_iff_getElem?.1 ((w2 n).2 ((mem n).1 hn'))
      obtain ⟨j, hj, _⟩ := (behind_at w1 hi).2 p hp
      rw [hj]; simp
    · unfold ringA ringB
      rw [List.any_eq_false]
      intro n hn'
      rw [Bool.not_eq_true, List.any_eq_false]
      intro p hp
      have : ¬ ((n : Int) ∈ reachI p l) := fun h => by
        obtain ⟨j, hj, hjn⟩ := reach_mem.1 h
        exact ring_out w1 ((w2 n).2 ((mem n).1 hn')) hp hj hjn
      simpa using this

/-! ### the law -/
theorem fI_neg {o : Option Nat} : decide (fI o < 0) = o.isNone := by
  cases o with
  | none => rfl
  | some k => exact decide_eq_false (by simp only [fI]; omega)
theorem fI_pos {o : Option Nat} : decide (fI o ≥ 0) = o.isSome := by
  cases o with
  | none => rfl
  | some k => simp [fI]
section
variable {Hb : Heap} {l : List En} {w q nm : Value} {e9 : Int} {P : List UInt8} (hf : Sli (all Hb) Hb l w) (hk : Eok l) (hm : mayN l = 0) (hT : ∀ p, todo l [p] [] ≤ 1000000000) (hl : l.length ≤ 20)
theorem reachN_len (l : List En) (p : List UInt8) : (reachN p l).length ≤ l.length := by
  unfold reachN picks
  have h2 := List.length_filter_le (fun k => decide ((rndF l l.length (start l p))[k]? = some true)) (List.range (rndF l l.length (start l p)).length)
  have h4 : (start l p).length = l.length := by unfold start; split <;> simp
  have h5 := (rndF_word (l := l) l.length (start l p) h4).1
  simp only [List.length_range] at h2
  omega
include hf hk hm hT hl
theorem just_L1 {n : Nat} {e : En} (he : l[n]? = some e) {t : Nat} (ht : t < 9223372036854775807) : ∀ (r k : Nat) (H : Heap) (ms rg : Bool), k + r = e.I.length → Keep (all Hb) Hb H →
    ∃ H' N, Keep (all Hb) Hb H' ∧ ∀ n' m, N ≤ n' → N ≤ m → ∀ R0, f4_L1 real (AC n') n' R0 m w nm (.int .i64 e9) q (.bool ms) (.bool rg) (.int .i64 (t : Int)) (.int .i64 (n : Int)) (.int .i64 (k : Int)) H =
      R0 w nm (.int .i64 e9) q (.bool (ms || missB l (e.I.drop k))) (.bool (rg || ringB l n (e.I.drop k))) (.int .i64 ((t + 1 : Nat) : Int)) H' := by
  have hI := hk.i e (List.mem_of_getElem? he)
  obtain ⟨b, o, wi, a1, a4, a3⟩ := en_at0 hf he
  intro r
  induction r with
  | zero =>
    intro k H ms rg hkr hK
    refine ⟨H, 1, hK, fun n' m h1 h2 R0 => ?_⟩
    obtain ⟨m, rfl⟩ : ∃ q, m = q + 1 := ⟨m - 1, by omega⟩
    have e1 : e.I.drop k = [] := List.drop_eq_nil_of_le (by omega)
    rw [f4_L1.eq_2, e1]
    simp only [ruA, ruB, ruC, ruE, ruD, lenStr, Int.reduceBEq, Int.reduceBNe, a1, (a3 H hK).2, a4.lenS, idx_ge (show e.I.length ≤ k by omega), idx_up ht, missB, ringB, List.any_nil, Bool.or_false]
  | succ r ih =>
    intro k H ms rg hkr hK
    obtain ⟨p, h1, h2⟩ := drop_at (l := e.I) (i := k) (by omega)
    obtain ⟨a, c1, c2⟩ := (a4.keep hK).at1 (STRL_at h1)
    obtain ⟨N1, g1⟩ := place_ok (p := p) (hf.up hK) hk.n
    obtain ⟨H1, qv, ⟨N2, g2⟩, k1, _, s1⟩ := reach_ok (hf.up hK) hk p (hT p)
    have s1 := s1 hm
    rw [reach_same] at s1
    have s1 : Sl (all H1) H1 1 qv (reachI p l).length (I (reachI p l)) := s1
    have rl := reachN_len l p
    have hrl : (reachI p l).length = (reachN p l).length := by simp [reachI]
    obtain ⟨N3, g3⟩ := has_ok (z := (n : Int)) (a := (reachI p l).length) s1 (by omega)
    rw [List.take_length] at g3
    rw [hm] at g2
    obtain ⟨H', N, i1, i2⟩ := ih (k + 1) H1 (ms || (findN l p).isNone) (rg || decide ((n : Int) ∈ reachI p l)) (by omega) (hK.tr k1)
    refine ⟨H', N + N1 + N2 + N3 + 1, i1, fun n' m x1 x2 R0 => ?_⟩
    obtain ⟨m, rfl⟩ : ∃ q, m = q + 1 := ⟨m - 1, by omega⟩
    have q1 : AC n' 13 [w, .string (bs p)] H = some (.int .i64 (fI (findN l p)), H) := g1 n' n' (by omega) (by omega)
    have q2 : AC n' 11 [.string (bs p), w] H = some (.tuple #[qv, .int .i64 0], H1) := g2 n' n' (by omega) (by omega)
    have q3 : AC n' 12 [qv, .int .i64 (n : Int), .int .i64 ((reachI p l).length : Int)] H1 = some (.bool (decide ((n : Int) ∈ reachI p l)), H1) := g3 n' n' (by omega) (by omega)
    have ez : ((0 : Int) != 0) = false := rfl
    have em : missB l (e.I.drop k) = ((findN l p).isNone || missB l (e.I.drop (k + 1))) := by rw [h2]; rfl
    have er : ringB l n (e.I.drop k) = (decide ((n : Int) ∈ reachI p l) || ringB l n (e.I.drop (k + 1))) := by rw [h2]; rfl
    have fin := i2 n' m (by omega) (by omega) R0
    rw [em, er, ← Bool.or_assoc, ← Bool.or_assoc]
    rw [f4_L1.eq_2]
    have up := idx_up (show k < 9223372036854775807 by omega)
    cases ms <;> cases rg <;>
      simp only [ruA, ruB, ruC, ruE, ruD, lenStr, Int.reduceBEq, Int.reduceBNe, a1, (a3 H hK).2, a4.lenS, idx_lt (show k < e.I.length by omega), c1, c2, q1, fI_neg, q2, ez, s1.lenS, q3, up, Bool.false_or, Bool.true_or] <;>
      simpa only [Bool.false_or, Bool.true_or] using fin
theorem just_L0 (hq : Sl (all Hb) Hb 1 q (reachI P l).length (I (reachI P l))) {nmP : List UInt8} (hnm : nm = .string (bs nmP)) : ∀ (r t : Nat) (H : Heap) (ms rg : Bool), t + r = (reachN P l).length → Keep (all Hb) Hb H →
    Fin l e9 nmP (ms || missA l ((reachN P l).drop t)) (rg || ringA l ((reachN P l).drop t)) →
    ∃ H', Keep (all Hb) Hb H' ∧ Ev (fun n m => f4_L0 real (AC n) n m w nm (.int .i64 e9) q (.bool ms) (.bool rg) (.int .i64 (t : Int)) H) (.bool true, H') := by
  have hrl : (reachI P l).length = (reachN P l).length := by simp [reachI]
  have rl := reachN_len l P
  intro r
  induction r with
  | zero =>
    intro t H ms rg hr hK hfin
    have e1 : (reachN P l).drop t = [] := List.drop_eq_nil_of_le (by omega)
    rw [e1] at hfin
    simp only [missA, ringA, List.any_nil, Bool.or_false] at hfin
    have lq : lenS q = some (.int .i64 ((reachN P l).length : Int)) := by rw [hq.lenS, hrl]
    refine ⟨H, hK, ?_⟩
    have pl := place_ok (p := nmP) (hf.up hK) hk.n
    rcases hfin with ⟨rfl, rfl, rfl⟩ | ⟨rfl, rfl, h3⟩ | ⟨rfl, rfl, kk, h3⟩
    · have ez : ((0 : Int) == 0) = true := rfl
      refine Ev.step (fun n m => f4_L0.eq_2 _ _ _ _ _ _ _ _ _ _ _ _) ?_
      simp only [ruA, ruB, ruC, ruE, ruD, lenStr, Int.reduceBEq, Int.reduceBNe, lq, idx_ge (show (reachN P l).length ≤ t by omega), ez]
      refine Ev.callC (awake_ok H) ?_
      exact Ev.pure _
    · rw [h3] at pl
      have z1 : ((160 : Int) == 0) = false := rfl
      have z2 : ((160 : Int) == 160) = true := rfl
      have z3 : decide ((-1 : Int) < 0) = true := rfl
      subst hnm
      refine Ev.step (fun n m => f4_L0.eq_2 _ _ _ _ _ _ _ _ _ _ _ _) ?_
      simp only [ruA, ruB, ruC, ruE, ruD, lenStr, Int.reduceBEq, Int.reduceBNe, lq, idx_ge (show (reachN P l).length ≤ t by omega), z1, z2]
      refine Ev.callC pl ?_
      simp only [ruA, ruB, ruC, ruE, ruD, lenStr, Int.reduceBEq, Int.reduceBNe, fI, z3]
      refine Ev.callC (awake_ok H) ?_
      exact Ev.pure _
    · rw [h3] at pl
      have z1 : ((161 : Int) == 0) = false := rfl
      have z2 : ((161 : Int) == 160) = false := rfl
      have z4 : ((161 : Int) == 161) = true := rfl
      have z3 : decide ((kk : Int) ≥ 0) = true := decide_eq_true (by omega)
      subst hnm
      refine Ev.step (fun n m => f4_L0.eq_2 _ _ _ _ _ _ _ _ _ _ _ _) ?_
      simp only [ruA, ruB, ruC, ruE, ruD, lenStr, Int.reduceBEq, Int.reduceBNe, lq, idx_ge (show (reachN P l).length ≤ t by omega), z1, z2, z4]
      refine Ev.callC pl ?_
      simp only [ruA, ruB, ruC, ruE, ruD, lenStr, Int.reduceBEq, Int.reduceBNe, fI, z3]
      refine Ev.callC (awake_ok H) ?_
      exact Ev.pure _
  | succ r ih =>
    intro t H ms rg hr hK hfin
    obtain ⟨n, h1, h2⟩ := drop_at (l := reachN P l) (i := t) (by omega)
    have lq : lenS q = some (.int .i64 ((reachN P l).length : Int)) := by rw [hq.lenS, hrl]
    have hnl : n < l.length := by
      have := List.mem_of_getElem? h1
      unfold reachN picks at this
      have := (List.mem_filter.1 this).1
      have h4 : (start l P).length = l.length := by unfold start; split <;> simp
      have h5 := (rndF_word (l := l) l.length (start l P) h4).1
      rw [List.mem_range, h5] at this
      exact this
    obtain ⟨e, he⟩ : ∃ e, l[n]? = some e := ⟨_, List.getElem?_eq_getElem hnl⟩
    have him : impN l n = e.I := by simp only [impN, he]
    obtain ⟨pa, b1, b2⟩ := (hq.up hK).at1 (I_at (i := t) (x := (n : Int)) (by simp [reachI, h1]))
    obtain ⟨H1, N1, c1, c2⟩ := just_L1 (nm := nm) (q := q) (e9 := e9) hf hk hm hT hl he (t := t) (by omega) e.I.length 0 H ms rg (by omega) hK
    rw [List.drop_zero] at c2
    have em : missA l ((reachN P l).drop t) = (missB l e.I || missA l ((reachN P l).drop (t + 1))) := by rw [h2, ← him]; rfl
    have er : ringA l ((reachN P l).drop t) = (ringB l n e.I || ringA l ((reachN P l).drop (t + 1))) := by rw [h2, ← him]; rfl
    rw [em, er, ← Bool.or_assoc, ← Bool.or_assoc] at hfin
    obtain ⟨H', d1, N, d2⟩ := ih (t + 1) H1 (ms || missB l e.I) (rg || ringB l n e.I) (by omega) c1 hfin
    refine ⟨H', d1, N + N1 + 1, fun n' m x1 x2 => ?_⟩
    obtain ⟨m, rfl⟩ : ∃ q, m = q + 1 := ⟨m - 1, by omega⟩
    show f4_L0 real (AC n') n' (m + 1) w nm (.int .i64 e9) q (.bool ms) (.bool rg) (.int .i64 (t : Int)) H = _
    rw [f4_L0.eq_2]
    have z1 : decide ((n : Int) < 0) = false := decide_eq_false (by omega)
    have z2 : decide ((n : Int) ≥ (l.length : Int)) = false := decide_eq_false (by omega)
    have c2 := c2 n' n' (by omega) (by omega) (f4_L0 real (AC n') n' m)
    have e0 : ((0 : Nat) : Int) = 0 := rfl
    rw [e0] at c2
    simp only [ruA, ruB, ruC, ruE, ruD, lenStr, Int.reduceBEq, Int.reduceBNe, lq, idx_lt (show t < (reachN P l).length by omega), b1, b2, z1, hf.lenS, z2]
    exact c2.trans (d2 n' m (by omega) (by omega))
end
/-- ImportsJust. -/
theorem just_law {H0 : Heap} {l : List (List Int)} {v : Value} (hf : Sli (all H0) H0 l v) {z : Int} (hz : inI z) : ∃ H', Cl 4 [v, .int .i64 z] H0 (.bool true) H' ∧ Keep (all H0) H0 H' := by
  obtain ⟨H1, w, a1, a2, a3⟩ := net_ok hf
  have hk := netN_ok l
  have hd := netN_dist l
  have hln := netN_len l
  have hm := may_small hd (by omega)
  by_cases h0 : (netN l).length = 0
  · refine ⟨H1, ?_, a2⟩
    refine Ev.enter (fun n => f4_eq rfl n _ _ _) ?_
    have e0 : (((netN l).length : Int) == 0) = true := by rw [h0]; rfl
    simp only [f4, ruA, ruB, ruC, ruE, ruD, lenStr, Int.reduceBEq, Int.reduceBNe]
    refine Ev.callC a1 ?_
    simp only [ruA, ruB, ruC, ruE, ruD, lenStr, Int.reduceBEq, Int.reduceBNe, a3.lenS, e0]
    refine Ev.callC (awake_ok H1) ?_
    exact Ev.pure _
  · have e0 : (((netN l).length : Int) == 0) = false := beq_eq_false_iff_ne.2 (by omega)
    have c1 := bring_ok (i := z) (n := ((netN l).length : Int)) hz (by omega) H1
    have br := bring_nat (i := z) (n := (netN l).length) (by omega)
    rw [br.1] at c1
    generalize (bringN z ((netN l).length : Int)).toNat = r at *
    obtain ⟨e, he⟩ : ∃ e, (netN l)[r]? = some e := ⟨_, List.getElem?_eq_getElem br.2⟩
    obtain ⟨b, o, wi, d1, _, d3⟩ := en_at0 a3 he
    obtain ⟨H2, ov, x1, x2, x3⟩ := order_ok a3 hk e.P
    obtain ⟨H3, qv, g1, g2, _, g3⟩ := reach_ok (a3.up x2) hk e.P (net_todo l e.P)
    have g3 := g3 hm
    rw [hm] at g1
    rw [reach_same] at g3
    have g3 : Sl (all H3) H3 1 qv (reachI e.P (netN l)).length (I (reachI e.P (netN l))) := g3
    have K := (a2.tr x2).tr g2
    have ez : ((0 : Int) != 0) = false := rfl
    have p1 := (d3 H1 (Keep.refl _ _)).1
    have p2 := (d3 H2 x2).1
    have fin := just_fin hd (by omega) he
    obtain ⟨H', k', main⟩ := just_L0 (P := e.P) (a3.up (x2.tr g2)) hk hm (net_todo l) (by omega) g3 (nmP := (orderN e.P (netN l)).2.1) rfl (reachN e.P (netN l)).length 0 H3 false false (by omega) (Keep.refl _ _) (by rw [List.drop_zero, Bool.false_or, Bool.false_or]; exact fin)
    have main := main.loop
    refine ⟨H', ?_, K.tr k'⟩
    refine Ev.enter (fun n => f4_eq rfl n _ _ _) ?_
    simp only [f4, ruA, ruB, ruC, ruE, ruD, lenStr, Int.reduceBEq, Int.reduceBNe]
    refine Ev.callC a1 ?_
    simp only [ruA, ruB, ruC, ruE, ruD, lenStr, Int.reduceBEq, Int.reduceBNe, a3.lenS, e0]
    refine Ev.callC c1 ?_
    simp only [ruA, ruB, ruC, ruE, ruD, lenStr, Int.reduceBEq, Int.reduceBNe, d1, p1, Nat.add_zero]
    refine Ev.callC x1 ?_
    simp only [ruA, ruB, ruC, ruE, ruD, lenStr, Int.reduceBEq, Int.reduceBNe, d1, p2, Nat.add_zero]
    refine Ev.callC g1 ?_
    simp only [ruA, ruB, ruC, ruE, ruD, lenStr, Int.reduceBEq, Int.reduceBNe, ez]
    exact main
end Go.Eng

/- Files that are put ahead change nothing but places, plainly. -/
set_option linter.unusedVariables false
set_option linter.unusedSimpArgs false
namespace Go.Eng

theorem find_app : ∀ (g f : List En) (p : List UInt8), (∀ e ∈ g, e.P ≠ p) → findN (g ++ f) p = (findN f p).map (· + g.length)
  | [], f, p, _ => by simp
  | x :: g, f, p, h => by
    simp only [List.cons_append, findN, if_neg (h x (by simp)), find_app g f p (fun e he => h e (by simp [he])), Option.map_map, List.length_cons]
    cases findN f p with
    | none => rfl
    | some k => simp only [Option.map_some, Function.comp]; congr 1
theorem imp_app (g f : List En) (i : Nat) : impN (g ++ f) (i + g.length) = impN f i := by
  simp only [impN, List.getElem?_append_right (Nat.le_add_left _ _), Nat.add_sub_cancel]
theorem path_app (g f : List En) (i : Nat) : pathN (g ++ f) (i + g.length) = pathN f i := by
  simp only [pathN, List.getElem?_append_right (Nat.le_add_left _ _), Nat.add_sub_cancel]
/-- No import of the files is found ahead. -/
def Away (g f : List En) : Prop := ∀ i, ∀ p ∈ impN f i, ∀ e ∈ g, e.P ≠ p
structure Sh (m : Nat) (G : List Nat) (s t : Dfs) : Prop where
  st : t.st = G ++ s.st
  many : t.many = s.many
  ord : t.ord = s.ord.map (· + m)
theorem sh_get {m : Nat} {G : List Nat} {s t : Dfs} (h : Sh m G s t) (hG : G.length = m) (k : Nat) : t.st[k + m]? = s.st[k]? := by
  rw [h.st, List.getElem?_append_right (by omega)]
  congr 1; omega
theorem sh_set {m : Nat} {G s : List Nat} (hG : G.length = m) (k v : Nat) : (G ++ s).set (k + m) v = G ++ s.set k v := by
  rw [List.set_append_right _ _ (by omega)]
  congr 2; omega
section
variable {g f : List En} {m : Nat} {G : List Nat} (hg : g.length = m) (hG : G.length = m) (hA : Away g f)
include hg hG hA
theorem goL_sh {n i : Nat} (ih : ∀ (k : Nat) (s t : Dfs), Sh m G s t → (dfs (g ++ f) n (k + m) t).2 = (dfs f n k s).2 ∧ Sh m G (dfs f n k s).1 (dfs (g ++ f) n (k + m) t).1) : ∀ (ps : List (List UInt8)) (s t : Dfs), (∀ p ∈ ps, p ∈ impN f i) → Sh m G s t →
    (goL (g ++ f) (dfs (g ++ f) n) ps t).2 = (goL f (dfs f n) ps s).2 ∧ Sh m G (goL f (dfs f n) ps s).1 (goL (g ++ f) (dfs (g ++ f) n) ps t).1
  | [], s, t, _, h => ⟨rfl, h⟩
  | p :: ps, s, t, hp, h => by
    have e := find_app g f p (fun e he => hA i p (hp p (by simp)) e he)
    rw [hg] at e
    have hp' : ∀ q ∈ ps, q ∈ impN f i := fun q hq => hp q (by simp [hq])
    simp only [goL, e]
    cases findN f p with
    | none => exact ⟨rfl, h⟩
    | some k =>
      simp only [Option.map_some, sh_get h hG]
      by_cases h1 : s.st[k]? = some 1
      · simp only [if_pos h1]; exact ⟨trivial, h⟩
      · by_cases h2 : s.st[k]? = some 2
        · simp only [if_neg h1, if_pos h2]; exact goL_sh ih ps s t hp' h
        · simp only [if_neg h1, if_neg h2]
          obtain ⟨a, b⟩ := ih k s t h
          rw [a]
          cases hr : (dfs f n k s).2 with
          | some x => exact ⟨rfl, b⟩
          | none => exact goL_sh ih ps _ _ hp' b
theorem dfs_sh : ∀ (n k : Nat) (s t : Dfs), Sh m G s t → (dfs (g ++ f) n (k + m) t).2 = (dfs f n k s).2 ∧ Sh m G (dfs f n k s).1 (dfs (g ++ f) n (k + m) t).1
  | 0, k, s, t, h => ⟨rfl, h⟩
  | n + 1, k, s, t, h => by
    have e1 : impN (g ++ f) (k + m) = impN f k := by rw [← hg]; exact imp_app g f k
    have e2 : pathN (g ++ f) (k + m) = pathN f k := by rw [← hg]; exact path_app g f k
    simp only [dfs, h.many, e1, e2]
    by_cases hm : 32 ≤ s.many
    · simp only [if_pos hm]; exact ⟨trivial, h⟩
    · simp only [if_neg hm]
      obtain ⟨a, b⟩ := goL_sh hg hG hA (n := n) (i := k) (dfs_sh n) (impN f k) ⟨s.st.set k 1, s.many + 1, s.ord⟩ ⟨t.st.set (k + m) 1, s.many + 1, t.ord⟩ (fun p hp => hp) ⟨by simp only [h.st]; exact sh_set hG k 1, rfl, h.ord⟩
      rw [a]
      cases hr : (goL f (dfs f n) (impN f k) ⟨s.st.set k 1, s.many + 1, s.ord⟩).2 with
      | some x => exact ⟨rfl, b⟩
      | none => exact ⟨rfl, ⟨by simp only [b.st]; exact sh_set hG k 2, b.many, by simp only [b.ord]; simp⟩⟩
end
theorem order_sh {g f : List En} (hA : Away g f) (h1 : mayN f = 0) (h2 : mayN (g ++ f) = 0) {P : List UInt8} (hP : ∀ e ∈ g, e.P ≠ P) :
    orderN P (g ++ f) = ((orderN P f).1.map (· + g.length), (orderN P f).2.1, (orderN P f).2.2) := by
  have e := find_app g f P hP
  simp only [orderN, h1, h2, e]
  cases hr : findN f P with
  | none => rfl
  | some i =>
    obtain ⟨a, b⟩ := dfs_sh (G := List.replicate g.length 0) rfl (by simp) hA 33 i (dfs0 f) (dfs0 (g ++ f)) ⟨by simp [dfs0, List.replicate_append_replicate], rfl, rfl⟩
    simp only [Option.map_some, a]
    cases hr2 : (dfs f 33 i (dfs0 f)).2 with
    | some x => rfl
    | none => simp only [b.ord]; rfl
theorem edge_app {g f : List En} (hA : Away g f) {i j' : Nat} : edge (g ++ f) (i + g.length) j' ↔ ∃ j, j' = j + g.length ∧ edge f i j := by
  unfold edge
  rw [imp_app]
  constructor
  · rintro ⟨p, hp, hf⟩
    rw [find_app g f p (hA i p hp)] at hf
    cases h : findN f p with
    | none => rw [h] at hf; cases hf
    | some j => rw [h] at hf; injection hf with hf; exact ⟨j, hf.symm, p, hp, h⟩
  · rintro ⟨j, rfl, p, hp, hf⟩
    exact ⟨p, hp, by rw [find_app g f p (hA i p hp), hf]; rfl⟩
theorem rch_app {g f : List En} (hA : Away g f) {i k' : Nat} : Rch (g ++ f) (i + g.length) k' ↔ ∃ k, k' = k + g.length ∧ Rch f i k := by
  constructor
  · intro h
    refine h.closed (S := fun x => ∃ k, x = k + g.length ∧ Rch f i k) (fun x y hx e => ?_) ⟨i, rfl, .refl i⟩
    obtain ⟨k, rfl, hk⟩ := hx
    obtain ⟨j, rfl, hj⟩ := (edge_app hA).1 e
    exact ⟨j, rfl, hk.snoc hj⟩
  · rintro ⟨k, rfl, h⟩
    exact h.closed (S := fun x => Rch (g ++ f) (i + g.length) (x + g.length)) (fun x y hx e => hx.snoc ((edge_app hA).2 ⟨y, rfl, e⟩)) (.refl _)
theorem reach_sh {g f : List En} (hA : Away g f) {P : List UInt8} (hP : ∀ e ∈ g, e.P ≠ P) : reachN P (g ++ f) = (reachN P f).map (· + g.length) := by
  refine rise_ext (picks_rise _) (List.Pairwise.map _ (fun a b h => by omega) (picks_rise _)) fun k => ?_
  have e := find_app g f P hP
  rw [show k ∈ reachN P (g ++ f) ↔ _ from rnd_root (g ++ f) P k, e, List.mem_map]
  constructor
  · rintro ⟨i, hi, hr⟩
    cases h : findN f P with
    | none => rw [h] at hi; cases hi
    | some j =>
      rw [h] at hi; injection hi with hi; subst hi
      obtain ⟨k0, rfl, h0⟩ := (rch_app hA).1 hr
      exact ⟨k0, (rnd_root f P k0).2 ⟨j, h, h0⟩, rfl⟩
  · rintro ⟨k0, hk, rfl⟩
    obtain ⟨j, hj, hr⟩ := (rnd_root f P k0).1 hk
    exact ⟨j + g.length, by rw [hj]; rfl, (rch_app hA).2 ⟨k0, rfl, hr⟩⟩

/-! ### the others -/
def gname (z : Int) : List UInt8 := (if (bringN z 2).toNat = 0 then 102 else 103) :: dg2 (bringN z 21).toNat
def glets (zs : List Int) : List (List UInt8) := (zs.take 6).map gname
def moreN (l : List (List Int)) : List En := (List.range (min l.length 20)).map fun i => ⟨103 :: dg2 i, glets (rowOf l i)⟩
theorem moreN_len (l : List (List Int)) : (moreN l).length = min l.length 20 := by simp [moreN]
theorem moreN_at {l : List (List Int)} {i : Nat} (h : i < min l.length 20) : (moreN l)[i]? = some ⟨103 :: dg2 i, glets (rowOf l i)⟩ := by
  simp [moreN, h]
theorem more_head {l : List (List Int)} {e : En} (h : e ∈ moreN l) : ∃ i, i < 20 ∧ e.P = 103 :: dg2 i := by
  simp only [moreN, List.mem_map, List.mem_range] at h
  obtain ⟨i, hi, rfl⟩ := h
  exact ⟨i, by omega, rfl⟩
theorem gname_inj : ∀ i, i < 21 → ∀ j, j < 21 → (103 :: dg2 i : List UInt8) = 103 :: dg2 j → i = j := by decide
theorem away_net (l l' : List (List Int)) : Away (moreN l) (netN l') := by
  intro i p hp e he
  obtain ⟨k, _, h⟩ := more_head he
  rw [h]
  simp only [impN] at hp
  split at hp
  · rename_i x hx
    have := List.mem_of_getElem? hx
    simp only [netN, List.mem_map] at this
    obtain ⟨y, _, rfl⟩ := this
    simp only [lets, List.mem_map] at hp
    obtain ⟨z, _, rfl⟩ := hp
    unfold fname
    intro h
    injection h with h _
    exact absurd h (by decide)
  · cases hp
theorem away_path {l l' : List (List Int)} {x : En} (hx : x ∈ netN l') : ∀ e ∈ moreN l, e.P ≠ x.P := fun e he => by
  obtain ⟨k, _, h⟩ := more_head he
  rw [h]
  simp only [netN, List.mem_map] at hx
  obtain ⟨y, _, rfl⟩ := hx
  unfold fname
  intro h
  injection h with h _
  exact absurd h (by decide)
theorem dist_all (l l' : List (List Int)) : Dist (moreN l ++ netN l') := by
  unfold Dist
  rw [List.map_append, List.nodup_append]
  refine ⟨?_, netN_dist l', fun a ha b hb h => ?_⟩
  · unfold moreN
    rw [List.map_map]
    unfold List.Nodup
    rw [List.pairwise_map]
    refine List.Pairwise.imp_of_mem (fun {a b} ha hb h e => ?_) List.nodup_range
    simp only [List.mem_range] at ha hb
    exact h (gname_inj a (by omega) b (by omega) e)
  · obtain ⟨e, he, rfl⟩ := List.mem_map.1 ha
    obtain ⟨x, hx, rfl⟩ := List.mem_map.1 hb
    exact away_path hx e he h
end Go.Eng

/- The law ImportsOthers. -/
set_option linter.unusedVariables false
set_option linter.unusedSimpArgs false
set_option linter.unusedSectionVars false
set_option maxRecDepth 100000
namespace Go.Eng
open Go Go.Proofs

theorem sb_refl {H : Heap} {b : Option Nat} : sameBlk H H b = true := sameBlk_of fun c hc => rfl
theorem g_add {k : Nat} : binB Tryd.prog .add 9 (.string ⟨#[103]⟩) (.string (bs (dg2 k))) = some (.string (bs (103 :: dg2 k))) := by
  have e : (⟨#[103]⟩ : ByteArray) = bs [103] := rfl
  rw [e, b_sadd]
  · rfl
  · unfold dg2; split <;> simp
theorem dg2_len (k : Nat) : (dg2 k).length ≤ 2 := by unfold dg2; split <;> simp
theorem gn_add {z : Int} : binB Tryd.prog .add 9 (.string (bs [if (bringN z 2).toNat = 0 then 102 else 103])) (.string (bs (dg2 (bringN z 21).toNat))) = some (.string (bs (gname z))) := by
  rw [b_sadd]
  · rfl
  · have := dg2_len (bringN z 21).toNat
    simp only [List.length_singleton]; omega
theorem bld_fg {H : Heap} : bldS 1 2 [.string ⟨#[]⟩] [(0, 1, .string ⟨#[102]⟩), (1, 1, .string ⟨#[103]⟩)] H = some (.slice (some ⟨H.n, 0, none⟩) 2 2, H.push ⟨[.string ⟨#[102]⟩, .string ⟨#[103]⟩], 1, true⟩) := by kernel_rfl
section
variable {H0 : Heap} {l : List (List Int)} {v x1 wf : Value} (hf : Sli (all H0) H0 l v)
include hf
theorem more_L1 {i : Nat} {zs : List Int} (hz : l[i]? = some zs) {Hb : Heap} (hb : H0.n ≤ Hb.n) {X : Nat} (hX : X < Hb.n) (hX0 : H0.n ≤ X) {P : List UInt8} {vo : Value} :
    ∀ (r k : Nat) (H : Heap) (vI : Value), k + r = min zs.length 6 → Keep (But Hb X) Hb H → Keep (all H0) H0 H → H.get X = some ⟨[.string (bs P), vI], 1, true⟩ → Acc (all Hb) H 1 vI (glets (zs.take k)).length (STRL (glets (zs.take k))) →
    ∃ H' vI' M, Keep (But Hb X) Hb H' ∧ Keep (all H0) H0 H' ∧ H'.get X = some ⟨[.string (bs P), vI'], 1, true⟩ ∧ Acc (all Hb) H' 1 vI' (glets zs).length (STRL (glets zs)) ∧
      ∀ n m, M ≤ n → ∀ R0, f5_L1 real (AC n) n R0 (m + r) x1 v wf vo (.int .i64 (i : Int)) (ptr X 0) (.int .i64 (k : Int)) H = f5_L1 real (AC n) n R0 m x1 v wf vo (.int .i64 (i : Int)) (ptr X 0) (.int .i64 ((min zs.length 6 : Nat) : Int)) H' := by
  intro r
  induction r with
  | zero =>
    intro k H vI hk hK hK0 hg hA
    have e : glets (zs.take k) = glets zs := by
      unfold glets
      congr 1
      rw [List.take_take]
      by_cases h : zs.length ≤ 6
      · rw [List.take_of_length_le (by omega), List.take_of_length_le h]
      · rw [show min 6 k = 6 by omega]
    rw [e] at hA
    exact ⟨H, vI, 0, hK, hK0, hg, hA, fun n m _ R0 => by rw [show k = min zs.length 6 by omega]; rfl⟩
  | succ r ih =>
    intro k H vI hk hK hK0 hg hA
    obtain ⟨z, hzk⟩ : ∃ z, zs[k]? = some z := ⟨_, List.getElem?_eq_getElem (by omega)⟩
    have l1 : ldC (ptr X 1) H = some (vI, H) := own_ld hg rfl
    have bf := bld_fg (H := H)
    have kp : Keep (all H) H (H.push ⟨[.string ⟨#[102]⟩, .string ⟨#[103]⟩], 1, true⟩) := push_keep
    have gp : (H.push ⟨[.string ⟨#[102]⟩, .string ⟨#[103]⟩], 1, true⟩).get H.n = some ⟨[.string ⟨#[102]⟩, .string ⟨#[103]⟩], 1, true⟩ := push_self
    have np : (H.push ⟨[.string ⟨#[102]⟩, .string ⟨#[103]⟩], 1, true⟩).n = H.n + 1 := push_n
    have hXH0 : X < H.n := Nat.lt_of_lt_of_le hX hK.1
    have hKp : Keep (But Hb X) Hb (H.push ⟨[.string ⟨#[102]⟩, .string ⟨#[103]⟩], 1, true⟩) := hK.trans (kp.mono fun q hq => Nat.lt_of_lt_of_le hq.1 hK.1)
    have hK0p : Keep (all H0) H0 (H.push ⟨[.string ⟨#[102]⟩, .string ⟨#[103]⟩], 1, true⟩) := hK0.trans (kp.mono fun q hq => Nat.lt_of_lt_of_le hq hK0.1)
    have hgp : (H.push ⟨[.string ⟨#[102]⟩, .string ⟨#[103]⟩], 1, true⟩).get X = some ⟨[.string (bs P), vI], 1, true⟩ := by rw [kp.2 X hXH0]; exact hg
    have hAp := hA.keep kp
    obtain ⟨a, w, a1, a2, a3, ab, ao, rfl, a4⟩ := row_at (hf.keep hK0) hz
    generalize H.push ⟨[.string ⟨#[102]⟩, .string ⟨#[103]⟩], 1, true⟩ = Hp at *
    obtain ⟨a', w', b1', b2', b3', _⟩ := row_at (hf.keep hK0p) hz
    obtain rfl : a' = _ := Option.some.inj (b1'.symm.trans a1)
    obtain ⟨b, b1, b2, b3⟩ := int_at b3' hzk
    obtain ⟨M1, g1⟩ := bring_ok (i := z) (n := 2) b3 (by omega) Hp
    obtain ⟨M3, g3⟩ := bring_ok (i := z) (n := 21) b3 (by omega) Hp
    have br : bringN z 2 = (((bringN z 2).toNat : Nat) : Int) ∧ (bringN z 2).toNat < 2 := bring_nat (i := z) (n := 2) (by omega)
    have br3 : bringN z 21 = (((bringN z 21).toNat : Nat) : Int) ∧ (bringN z 21).toNat < 21 := bring_nat (i := z) (n := 21) (by omega)
    obtain ⟨M2, g2⟩ := ito_ok (k := (bringN z 21).toNat) (by omega) Hp
    have lfg : ldC (ptr H.n (bringN z 2).toNat) Hp = some (.string (bs [if (bringN z 2).toNat = 0 then 102 else 103]), Hp) := by
      refine own_ld gp ?_
      have : (bringN z 2).toNat = 0 ∨ (bringN z 2).toNat = 1 := by omega
      rcases this with h | h <;> rw [h] <;> rfl
    have hlen : (glets (zs.take k)).length ≤ 10000 := by simp only [glets, List.length_map, List.length_take]; omega
    obtain ⟨vI', H1, n1, n2, n3, n4⟩ := name_app (H0 := Hb) (s := gname z) hKp.1 hAp hlen
    have hXv : blkOf vI ≠ some X := fun e => (hAp.at e).1 hX
    have hXH : X < Hp.n := Nat.lt_of_lt_of_le hX hKp.1
    have c1 := stV1_box (k := 1) (w := vI') ((n3.2 X ⟨hXH, hXv⟩).trans hgp) (by simp) n2.oneC.2 n2.oneC.1
    obtain ⟨H2, hH2⟩ : ∃ H2, H2 = H1.upd X (some ⟨[.string (bs P), vI'], 1, true⟩) := ⟨_, rfl⟩
    have c1 : stV 1 (ptr X 1) vI' H1 = some (undef, H2) := by rw [hH2]; exact c1
    have hXv' : blkOf vI' ≠ some X := fun e => (n2.at e).1 hX
    have el : glets (zs.take k) ++ [gname z] = glets (zs.take (k + 1)) := by
      unfold glets
      rw [List.take_take, List.take_take, show min 6 k = k by omega, show min 6 (k + 1) = k + 1 by omega, List.take_add_one, hzk, List.map_append]
      rfl
    rw [el] at n2
    have K1 : Keep (But Hb X) Hb H1 := hKp.trans (n3.mono fun q hq => ⟨Nat.lt_of_lt_of_le hq.1 hKp.1, fun e => (hAp.at e).1 hq.1⟩)
    have K2 : Keep (But Hb X) Hb H2 := by rw [hH2]; exact K1.trans (Keep.upd fun h => h.2 rfl)
    have K0 : Keep (all H0) H0 H2 := ⟨by have := K2.1; omega, fun q hq => by
      have hq : q < H0.n := hq
      rw [hH2, upd_ne (by omega), n3.2 q ⟨by have := hKp.1; omega, fun e => (hAp.at e).1 (by show q < Hb.n; omega)⟩, hK0p.2 q hq]⟩
    obtain ⟨H', vI2, M, r1, r2, r3, r4, r5⟩ := ih (k + 1) H2 vI' (by omega) K2 K0 (by rw [hH2]; exact upd_self) (by rw [hH2]; exact n2.box hXv' upd_butQ)
    refine ⟨H', vI2, M + M1 + M2 + M3, r1, r2, r3, r4, fun n m hM R0 => ?_⟩
    rw [show m + (r + 1) = (m + r) + 1 by omega, f5_L1.eq_2]
    have k6 : decide ((k : Int) < 6) = true := decide_eq_true (by omega)
    have q1 : AC n 9 [.int .i64 z, .int .i64 2] Hp = some (.int .i64 (((bringN z 2).toNat : Nat) : Int), Hp) := by rw [← br.1]; exact g1 n n (by omega) (by omega)
    have q3 : AC n 9 [.int .i64 z, .int .i64 21] Hp = some (.int .i64 (((bringN z 21).toNat : Nat) : Int), Hp) := by rw [← br3.1]; exact g3 n n (by omega) (by omega)
    have q2 : AC n 14 [.int .i64 (((bringN z 21).toNat : Nat) : Int)] Hp = some (.string (bs (dg2 (bringN z 21).toNat)), Hp) := g2 n n (by omega) (by omega)
    simp only [ruA, ruB, ruC, ruE, ruD, lenStr, Int.reduceBEq, Int.reduceBNe, a1, a2, a3.lenS, idx_lt (show k < zs.length by omega), k6, l1, bf, b2', b1, b2, q1, sb_refl, Bool.true_and, Bool.and_true, own_at br.2, lfg, q3, q2, gn_add, b1s, n1, c1, idx_up (show k < 9223372036854775807 by omega)]
    exact r5 n m (by omega) R0
theorem more_L0 {N : Nat} (hN : N = min l.length 20) : ∀ (r i : Nat) (H : Heap) (L : Nat → Prop) (vo : Value), i + r = N → Keep (all H0) H0 H → AccR H0 H L vo ((moreN l).take i) → (∀ b, blkOf vo = some b → L b) → (∀ b, L b → b < H.n ∧ H0.n ≤ b) →
    ∃ H' vo' L' M, Keep (all H0) H0 H' ∧ AccR H0 H' L' vo' (moreN l) ∧ (∀ b, blkOf vo' = some b → L' b) ∧ (∀ b, L' b → b < H'.n ∧ H0.n ≤ b) ∧
      ∀ n m, M ≤ n → f5_L0 real (AC n) n (m + r) x1 v wf vo (.int .i64 (i : Int)) H = f5_L0 real (AC n) n m x1 v wf vo' (.int .i64 (N : Int)) H' := by
  intro r
  induction r with
  | zero =>
    intro i H L vo hi hK hA hv hL
    rw [List.take_of_length_le (by rw [moreN_len]; omega)] at hA
    exact ⟨H, vo, L, 0, hK, hA, hv, hL, fun n m _ => by rw [show i = N by omega]; rfl⟩
  | succ r ih =>
    intro i H L vo hi hK hA hv hL
    obtain ⟨zs, hz⟩ : ∃ zs, l[i]? = some zs := ⟨_, List.getElem?_eq_getElem (by omega)⟩
    have hm : mostBytes = 140737488355328 := rfl
    obtain ⟨Mi, gi⟩ := ito_ok (k := i) (by omega) H
    obtain ⟨e1, e2, e3, e4, e5⟩ := el_box (H := H) (a := .string (bs (103 :: dg2 i))) (b := .slice none 0 0) (u := .string ⟨#[]⟩) (v := .slice none 0 0) rfl rfl rfl rfl
    have bl : bld [.string ⟨#[]⟩, .slice none 0 0] [(0, 1, .string (bs (103 :: dg2 i)))] H = some (.agg #[.string (bs (103 :: dg2 i)), .slice none 0 0], H) := bldRl
    generalize H.push ⟨[.string (bs (103 :: dg2 i)), .slice none 0 0], 1, true⟩ = H1 at *
    have K1 : Keep (all H0) H0 H1 := hK.trans (e3.mono fun q hq => Nat.lt_of_lt_of_le hq hK.1)
    obtain ⟨H3, w2, M, r1, r2, g3, t2, r5⟩ := more_L1 (x1 := x1) (wf := wf) (vo := vo) hf hz (Hb := H1) K1.1 (X := H.n) (by omega) hK.1 (P := 103 :: dg2 i) (min zs.length 6) 0 H1 nilS (by omega) (Keep.refl _ _) K1 e4 (by simpa [glets] using Acc.nil)
    have KH : Keep (all H) H H3 := ⟨by have := r1.1; omega, fun q hq => by
      have hq : q < H.n := hq
      rw [r1.2 q ⟨by omega, by omega⟩, e3.2 q hq]⟩
    have c5 : Eng.ldA 2 (ptr H.n 0) H3 = some (.agg #[.string (bs (103 :: dg2 i)), w2], H3) := ld2 g3
    have c6 := bldR (H := H3) (s := bs (103 :: dg2 i)) t2.oneC.1 t2.oneC.2
    have hA3 : AccR H0 H3 L vo ((moreN l).take i) := hA.move (L' := L) (KH.mono fun q hq => hq.1) (fun q hq => KH.2 q (hL q (hv q hq)).1) fun q hq => ⟨Nat.lt_of_lt_of_le hq.1 KH.1, hq.2⟩
    have sl2 : Sl (Stay H3 L) H3 1 w2 (glets zs).length (STRL (glets zs)) := t2.read fun q h1 h2 => ⟨h2, fun hq => by
        have := (hL q hq).1
        have : ¬ q < H1.n := h1
        omega⟩
    have hnet : (moreN l)[i]? = some ⟨103 :: dg2 i, glets zs⟩ := by
      rw [moreN_at (by omega)]
      simp only [rowOf, hz]
    have hx : Rp.rep (Stay H3 L) H3 (⟨103 :: dg2 i, glets zs⟩ : En) [.string (bs (103 :: dg2 i)), w2] := rep_en.2 ⟨w2, rfl, sl2⟩
    have hlen : ((moreN l).take i).length = i := by rw [List.length_take, moreN_len]; omega
    obtain ⟨v', H4, d1, d2, d3, d4⟩ := hA3.add (by_ := 40) r2.1 hx (by rw [hlen]; omega) hv
    have d1 : Eng.app 2 40 vo (.slice (some ⟨H3.n, 0, none⟩) 1 1) (H3.push ⟨[.string (bs (103 :: dg2 i)), w2], 2, true⟩) = some (v', H4) := d1
    rw [← take_up hnet] at d2
    have K4 : Keep (all H0) H0 H4 := r2.trans (d3.mono fun q hq => ⟨Nat.lt_of_lt_of_le hq r2.1, fun hb => by
      have := (hL q (hv q hb)).2
      have : q < H0.n := hq
      omega⟩)
    obtain ⟨H', vo', L', Mr, f1, f2, f3, f4, f5⟩ := ih (i + 1) H4 _ v' (by omega) K4 d2 (fun q hq => .inr hq) (fun q hq => by
      rcases hq with hq | hq
      · have := hL q hq
        have := d3.1
        have := KH.1
        exact ⟨by omega, by omega⟩
      · have := d2.at hq
        exact ⟨this.2, this.1⟩)
    refine ⟨H', vo', L', M + Mr + Mi + 8, f1, f2, f3, f4, fun n m x1 => ?_⟩
    rw [show m + (r + 1) = (m + r) + 1 by omega, f5_L0.eq_2]
    have q1 : AC n 14 [.int .i64 (i : Int)] H = some (.string (bs (dg2 i)), H) := gi n n (by omega) (by omega)
    have k20 : decide ((i : Int) < 20) = true := decide_eq_true (by omega)
    simp only [ruA, ruB, ruC, ruE, ruD, lenStr, Int.reduceBEq, Int.reduceBNe, hf.lenS, idx_lt (show i < l.length by omega), k20, q1, g_add, bl, e1, e2]
    obtain ⟨n', hn'⟩ : ∃ q, n = (q + 1) + min zs.length 6 := ⟨n - min zs.length 6 - 1, by omega⟩
    have st := r5 n (n' + 1) (by omega) (f5_L0 real (AC n) n (m + r))
    rw [← hn'] at st
    have e0 : ((0 : Nat) : Int) = 0 := rfl
    rw [e0] at st
    refine st.trans ?_
    rw [f5_L1.eq_2]
    obtain ⟨a, w, a1, a2, a3, ab, ao, rfl, a4⟩ := row_at (hf.keep r2) hz
    have fin := f5 n m (by omega)
    by_cases h6 : zs.length ≤ 6
    · simp only [ruA, ruB, ruC, ruE, ruD, lenStr, Int.reduceBEq, Int.reduceBNe, a1, a2, a3.lenS, idx_ge (show zs.length ≤ min zs.length 6 by omega), c5, c6, d1, idx_up (show i < 9223372036854775807 by omega)]
      exact fin
    · have k6 : decide (((min zs.length 6 : Nat) : Int) < 6) = false := decide_eq_false (by omega)
      simp only [ruA, ruB, ruC, ruE, ruD, lenStr, Int.reduceBEq, Int.reduceBNe, a1, a2, a3.lenS, idx_lt (show min zs.length 6 < zs.length by omega), k6, c5, c6, d1, idx_up (show i < 9223372036854775807 by omega)]
      exact fin
end
/-! ### the two loops -/
def upI (m : Nat) (xs : List Int) : List Int := xs.map (· + (m : Int))
section
variable {H : Heap} {m : Nat} {xs ys : List Int} {a b c d : Value} (ha : Sl (all H) H 1 a xs.length (I xs)) (hb : Sl (all H) H 1 b (upI m xs).length (I (upI m xs))) (hc : Sl (all H) H 1 c ys.length (I ys)) (hd : Sl (all H) H 1 d (upI m ys).length (I (upI m ys))) (hx : ∀ x ∈ xs, 0 ≤ x ∧ x < 1000000) (hy : ∀ x ∈ ys, 0 ≤ x ∧ x < 1000000) (hm : m ≤ 1000) (hlx : xs.length ≤ 1000000) (hly : ys.length ≤ 1000000)
include hc hd hy hm hly
theorem oth_L3 : ∀ (k i : Nat), i + k = ys.length → Ev (fun n m' => f5_L3 real (AC n) n m' (.int .i64 (m : Int)) c d (.int .i64 (i : Int)) H) (.bool true, H) := by
  intro k
  induction k with
  | zero =>
    intro i hi
    refine Ev.step (fun n m => f5_L3.eq_2 _ _ _ _ _ _ _ _ _) ?_
    simp only [ruA, ruB, ruC, ruE, ruD, lenStr, Int.reduceBEq, Int.reduceBNe, hc.lenS, idx_ge (show ys.length ≤ i by omega)]
    refine Ev.callC (awake_ok H) ?_
    exact Ev.pure _
  | succ k ih =>
    intro i hi
    obtain ⟨x, h1⟩ : ∃ x, ys[i]? = some x := ⟨_, List.getElem?_eq_getElem (by omega)⟩
    obtain ⟨p, p1, p2⟩ := hc.at1 (I_at h1)
    obtain ⟨q, q1, q2⟩ := hd.at1 (I_at (i := i) (x := x + (m : Int)) (by simp [upI, h1]))
    have := hy x (List.mem_of_getElem? h1)
    have w : IntKind.i64.wrap (x + (m : Int)) = x + (m : Int) := wrap_i64 (by omega) (by omega)
    have e : ((x + (m : Int)) != (x + (m : Int))) = false := by simp
    refine Ev.step (fun n m => f5_L3.eq_2 _ _ _ _ _ _ _ _ _) ?_
    simp only [ruA, ruB, ruC, ruE, ruD, lenStr, Int.reduceBEq, Int.reduceBNe, hc.lenS, idx_lt (show i < ys.length by omega), p1, p2, w, q1, q2, e, idx_up (show i < 9223372036854775807 by omega)]
    exact ih (i + 1) (by omega)
include ha hb hx hlx
theorem oth_L2 : ∀ (k i : Nat), i + k = xs.length → Ev (fun n m' => f5_L2 real (AC n) n m' (.int .i64 (m : Int)) a b c d (.int .i64 (i : Int)) H) (.bool true, H) := by
  have next := (oth_L3 hc hd hy hm hly ys.length 0 (by omega)).loop
  intro k
  induction k with
  | zero =>
    intro i hi
    refine Ev.step (fun n m => f5_L2.eq_2 _ _ _ _ _ _ _ _ _ _ _) ?_
    simp only [ruA, ruB, ruC, ruE, ruD, lenStr, Int.reduceBEq, Int.reduceBNe, ha.lenS, idx_ge (show xs.length ≤ i by omega)]
    exact next
  | succ k ih =>
    intro i hi
    obtain ⟨x, h1⟩ : ∃ x, xs[i]? = some x := ⟨_, List.getElem?_eq_getElem (by omega)⟩
    obtain ⟨p, p1, p2⟩ := ha.at1 (I_at h1)
    obtain ⟨q, q1, q2⟩ := hb.at1 (I_at (i := i) (x := x + (m : Int)) (by simp [upI, h1]))
    have := hx x (List.mem_of_getElem? h1)
    have w : IntKind.i64.wrap (x + (m : Int)) = x + (m : Int) := wrap_i64 (by omega) (by omega)
    have e : ((x + (m : Int)) != (x + (m : Int))) = false := by simp
    refine Ev.step (fun n m => f5_L2.eq_2 _ _ _ _ _ _ _ _ _ _ _) ?_
    simp only [ruA, ruB, ruC, ruE, ruD, lenStr, Int.reduceBEq, Int.reduceBNe, ha.lenS, idx_lt (show i < xs.length by omega), p1, p2, w, q1, q2, e, idx_up (show i < 9223372036854775807 by omega)]
    exact ih (i + 1) (by omega)
end
end Go.Eng

/- The law ImportsOthers, put together. -/
set_option linter.unusedVariables false
set_option linter.unusedSimpArgs false
set_option linter.unusedSectionVars false
set_option maxRecDepth 100000
namespace Go.Eng
open Go Go.Proofs

theorem all_imp (l l' : List (List Int)) (i : Nat) : (impN (moreN l ++ netN l') i).length ≤ 6 := by
  simp only [impN]
  split
  · rename_i e he
    have := List.mem_of_getElem? he
    rcases List.mem_append.1 this with h | h
    · simp only [moreN, List.mem_map] at h
      obtain ⟨x, _, rfl⟩ := h
      simp only [glets, List.length_map, List.length_take]; omega
    · simp only [netN, List.mem_map] at h
      obtain ⟨x, _, rfl⟩ := h
      exact lets_len _ _
  · simp
theorem all_ok (l l' : List (List Int)) : Eok (moreN l ++ netN l') := by
  have h1 := moreN_len l
  have h2 := netN_len l'
  refine ⟨by rw [List.length_append]; omega, fun e he => ?_⟩
  obtain ⟨i, hi⟩ := List.mem_iff_getElem?.1 he
  have := all_imp l l' i
  simp only [impN, hi] at this
  omega
theorem all_todo (l l' : List (List Int)) (root : List UInt8) : todo (moreN l ++ netN l') [root] [] ≤ 1000000000 := by
  have g1 := moreN_len l
  have g2 := netN_len l'
  simp only [todo, List.length_cons, List.length_nil]
  have h1 := sum_le (all_imp l l') ((List.range (moreN l ++ netN l').length).filter (fun i => decide (i ∉ ([] : List Nat))))
  have h2 := List.length_filter_le (fun i => decide (i ∉ ([] : List Nat))) (List.range (moreN l ++ netN l').length)
  have h3 : (moreN l ++ netN l').length = (moreN l).length + (netN l').length := List.length_append
  simp only [List.length_range] at h2
  omega
theorem NI_up {xs : List Nat} {m : Nat} : NI (xs.map (· + m)) = I (upI m (xs.map fun (k : Nat) => (k : Int))) := by
  simp [NI, I, upI]
theorem reach_up {xs : List Nat} {m : Nat} : (xs.map (· + m)).map (fun (k : Nat) => (k : Int)) = upI m (xs.map fun (k : Nat) => (k : Int)) := by
  simp [upI]
/-- ImportsOthers. -/
theorem others_law {H0 : Heap} {l l2 : List (List Int)} {v v2 : Value} (hf : Sli (all H0) H0 l v) (hf2 : Sli (all H0) H0 l2 v2) {z : Int} (hz : inI z) : ∃ H', Cl 5 [v, .int .i64 z, v2] H0 (.bool true) H' ∧ Keep (all H0) H0 H' := by
  have hmb : mostBytes = 140737488355328 := rfl
  obtain ⟨H1, w, a1, a2, a3⟩ := net_ok hf
  have hk := netN_ok l
  have hd := netN_dist l
  have hln := netN_len l
  have hlm := moreN_len l2
  have hm := may_small hd (by omega)
  have hda := dist_all l2 l
  have hla : (moreN l2 ++ netN l).length = (moreN l2).length + (netN l).length := List.length_append
  have hma := may_small hda (by omega)
  have hka := all_ok l2 l
  by_cases h0 : (netN l).length = 0
  · refine ⟨H1, ?_, a2⟩
    refine Ev.enter (fun n => f5_eq rfl n _ _ _ _) ?_
    have e0 : (((netN l).length : Int) == 0) = true := by rw [h0]; rfl
    simp only [f5, ruA, ruB, ruC, ruE, ruD, lenStr, Int.reduceBEq, Int.reduceBNe]
    refine Ev.callC a1 ?_
    simp only [ruA, ruB, ruC, ruE, ruD, lenStr, Int.reduceBEq, Int.reduceBNe, a3.lenS, e0]
    refine Ev.callC (awake_ok H1) ?_
    exact Ev.pure _
  · have e0 : (((netN l).length : Int) == 0) = false := beq_eq_false_iff_ne.2 (by omega)
    obtain ⟨H2, vo, L, M, m1, ⟨cs, m2, m3⟩, m4, m5, m6⟩ := more_L0 (x1 := .int .i64 z) (wf := w) (hf2.up a2) (N := min l2.length 20) rfl (min l2.length 20) 0 H1 (fun _ => False) nilS (by omega) (Keep.refl _ _) (by rw [List.take_zero]; exact AccR.nil) (fun b hb => by simp [blkOf] at hb) (fun b hb => hb.elim)
    have hw2 := a3.keep m1
    obtain ⟨ds, w1, w2⟩ := hw2
    have lo : lenS vo = some (.int .i64 ((moreN l2).length : Int)) := m2.sl.lenS
    obtain ⟨va, H3, b1, b2, b3, b4, b5, b6⟩ := m2.appQ (by_ := 40) m1.1 w1.addend w1.len (by omega)
    have b1 : Eng.app 2 40 vo w H2 = some (va, H3) := b1
    have K3 : Keep (all H1) H1 H3 := m1.trans b3
    have hall : Sli (all H3) H3 (moreN l2 ++ netN l) va := by
      refine ⟨cs ++ ds, by rw [List.length_append]; exact b2.sl, RpL.append ?_ ?_⟩
      · exact (m3.keep (b4.mono fun q hq => ⟨hq.1, fun e => hq.2 (m4 q e)⟩)).mono fun q hq => Nat.lt_of_lt_of_le hq.1 b4.1
      · exact (w2.keep b3).mono fun q hq => Nat.lt_of_lt_of_le hq K3.1
    have hwf := a3.up K3
    have c1 := bring_ok (i := z) (n := ((netN l).length : Int)) hz (by omega) H3
    have br := bring_nat (i := z) (n := (netN l).length) (by omega)
    rw [br.1] at c1
    generalize (bringN z ((netN l).length : Int)).toNat = r at *
    obtain ⟨e, he⟩ : ∃ e, (netN l)[r]? = some e := ⟨_, List.getElem?_eq_getElem br.2⟩
    obtain ⟨b, o, wi, d1, _, d3⟩ := en_at0 hwf he
    have p1 := (d3 H3 (Keep.refl _ _)).1
    have hP : ∀ x ∈ moreN l2, x.P ≠ e.P := away_path (List.mem_of_getElem? he)
    have hA := away_net l2 l
    have osh := order_sh hA hm hma hP
    have rsh := reach_sh hA (P := e.P) hP
    obtain ⟨H4, o1, x1, x2, x3⟩ := order_ok hwf hk e.P
    obtain ⟨H5, o2, y1, y2, y3⟩ := order_ok (hall.up x2) hka e.P
    obtain ⟨H6, q1, g1, g2, _, g3⟩ := reach_ok (hwf.up (x2.tr y2)) hk e.P (net_todo l e.P)
    obtain ⟨H7, q2, i1, i2, _, i3⟩ := reach_ok (hall.up ((x2.tr y2).tr g2)) hka e.P (all_todo l2 l e.P)
    have g3 := g3 hm
    have i3 := i3 hma
    rw [hm] at g1
    rw [hma] at i1
    rw [reach_same] at g3 i3
    rw [rsh, reach_up] at i3
    rw [osh] at y1 y3
    have K : Keep (all H0) H0 H7 := (((((a2.tr K3).tr x2).tr y2).tr g2).tr i2)
    have hmem : ∀ k ∈ (orderN e.P (netN l)).1, k < 1000000 := fun k hk' => by
      by_cases hz0 : (orderN e.P (netN l)).2.2 = 0
      · obtain ⟨s, s1, s2, s3, _⟩ := ord_good hd (by omega) he hz0
        rw [s2] at hk'
        have := ((s3 k).1 hk').lt br.2
        omega
      · rw [ord_bad hz0] at hk'; cases hk'
    have h32 := dfs_len (netN l) e.P
    generalize orderN e.P (netN l) = or at *
    rw [NI_I] at x3
    have x3 : Sl (all H7) H7 1 o1 (or.1.map fun (k : Nat) => (k : Int)).length (I (or.1.map fun (k : Nat) => (k : Int))) := by
      have := ((x3.up y2).up g2).up i2
      simpa using this
    simp only at y1 y3
    rw [NI_up] at y3
    have y3 : Sl (all H7) H7 1 o2 (upI (moreN l2).length (or.1.map fun (k : Nat) => (k : Int))).length (I (upI (moreN l2).length (or.1.map fun (k : Nat) => (k : Int)))) := by
      have := (y3.up g2).up i2
      simpa [upI] using this
    have g3 : Sl (all H7) H7 1 q1 ((reachN e.P (netN l)).map fun (k : Nat) => (k : Int)).length (I ((reachN e.P (netN l)).map fun (k : Nat) => (k : Int))) := g3.up i2
    have hrn := reachN_len (netN l) e.P
    have hy : ∀ x ∈ ((reachN e.P (netN l)).map fun (k : Nat) => (k : Int)), 0 ≤ x ∧ x < 1000000 := fun x hx => by
      obtain ⟨k, hk', rfl⟩ := List.mem_map.1 hx
      unfold reachN picks at hk'
      have t := (List.mem_filter.1 hk').1
      have h4 : (start (netN l) e.P).length = (netN l).length := by unfold start; split <;> simp
      have h5 := (rndF_word (l := netN l) (netN l).length (start (netN l) e.P) h4).1
      rw [List.mem_range, h5] at t
      omega
    have hx : ∀ x ∈ (or.1.map fun (k : Nat) => (k : Int)), 0 ≤ x ∧ x < 1000000 := fun x hx => by
      obtain ⟨k, hk', rfl⟩ := List.mem_map.1 hx
      have := hmem k hk'
      omega
    have main := (oth_L2 (m := (moreN l2).length) x3 y3 g3 i3 hx hy (by omega) (by simp; omega) (by simp; omega) (or.1.map fun (k : Nat) => (k : Int)).length 0 (by omega)).loop
    have l1 : lenS o1 = some (.int .i64 (or.1.length : Int)) := by rw [x3.lenS]; simp
    have l2' : lenS o2 = some (.int .i64 (or.1.length : Int)) := by rw [y3.lenS]; simp [upI]
    have l3 : lenS q1 = some (.int .i64 ((reachN e.P (netN l)).length : Int)) := by rw [g3.lenS]; simp
    have l4 : lenS q2 = some (.int .i64 ((reachN e.P (netN l)).length : Int)) := by rw [i3.lenS]; simp [upI]
    have n1 : (or.2.2 != or.2.2) = false := by simp
    have n2 : ∀ k : Nat, ((k : Int) != (k : Int)) = false := fun k => by simp
    have ez : ((0 : Int) != 0) = false := rfl
    -- the rest
    have rest : Ev (fun n m => f5_L0 real (AC n) n m (.int .i64 z) v2 w vo (.int .i64 ((min l2.length 20 : Nat) : Int)) H2) (.bool true, H7) := by
      have hf2' := (hf2.up a2).keep m1
      refine Ev.step (fun n m => f5_L0.eq_2 _ _ _ _ _ _ _ _ _ _) ?_
      by_cases h6 : l2.length ≤ 20
      · simp only [ruA, ruB, ruC, ruE, ruD, lenStr, Int.reduceBEq, Int.reduceBNe, hf2'.lenS, idx_ge (show l2.length ≤ min l2.length 20 by omega), lo, b1, hwf.lenS]
        refine Ev.callC c1 ?_
        simp only [ruA, ruB, ruC, ruE, ruD, lenStr, Int.reduceBEq, Int.reduceBNe, d1, p1, Nat.add_zero]
        refine Ev.callC x1 ?_
        simp only [ruA, ruB, ruC, ruE, ruD, lenStr, Int.reduceBEq, Int.reduceBNe]
        refine Ev.callC y1 ?_
        simp only [ruA, ruB, ruC, ruE, ruD, lenStr, Int.reduceBEq, Int.reduceBNe]
        refine Ev.callC g1 ?_
        simp only [ruA, ruB, ruC, ruE, ruD, lenStr, Int.reduceBEq, Int.reduceBNe]
        refine Ev.callC i1 ?_
        simp only [ruA, ruB, ruC, ruE, ruD, lenStr, Int.reduceBEq, Int.reduceBNe, n1, bs_beq, decide_true, ez, l1, l2', n2, l3, l4]
        exact main
      · have k6 : decide (((min l2.length 20 : Nat) : Int) < 20) = false := decide_eq_false (by omega)
        simp only [ruA, ruB, ruC, ruE, ruD, lenStr, Int.reduceBEq, Int.reduceBNe, hf2'.lenS, idx_lt (show min l2.length 20 < l2.length by omega), k6, lo, b1, hwf.lenS]
        refine Ev.callC c1 ?_
        simp only [ruA, ruB, ruC, ruE, ruD, lenStr, Int.reduceBEq, Int.reduceBNe, d1, p1, Nat.add_zero]
        refine Ev.callC x1 ?_
        simp only [ruA, ruB, ruC, ruE, ruD, lenStr, Int.reduceBEq, Int.reduceBNe]
        refine Ev.callC y1 ?_
        simp only [ruA, ruB, ruC, ruE, ruD, lenStr, Int.reduceBEq, Int.reduceBNe]
        refine Ev.callC g1 ?_
        simp only [ruA, ruB, ruC, ruE, ruD, lenStr, Int.reduceBEq, Int.reduceBNe]
        refine Ev.callC i1 ?_
        simp only [ruA, ruB, ruC, ruE, ruD, lenStr, Int.reduceBEq, Int.reduceBNe, n1, bs_beq, decide_true, ez, l1, l2', n2, l3, l4]
        exact main
    have whole : Ev (fun n m => f5_L0 real (AC n) n n (.int .i64 z) v2 w nilS (.int .i64 0) H1) (.bool true, H7) := by
      obtain ⟨N, hN⟩ := rest
      refine ⟨M + N + 30, fun n m h1 h2 => ?_⟩
      obtain ⟨n', hn'⟩ : ∃ q, n = q + min l2.length 20 := ⟨n - min l2.length 20, by omega⟩
      have st := m6 n n' (by omega)
      rw [← hn'] at st
      exact st.trans (hN n n' (by omega) (by omega))
    refine ⟨H7, ?_, K⟩
    refine Ev.enter (fun n => f5_eq rfl n _ _ _ _) ?_
    simp only [f5, ruA, ruB, ruC, ruE, ruD, lenStr, Int.reduceBEq, Int.reduceBNe]
    refine Ev.callC a1 ?_
    simp only [ruA, ruB, ruC, ruE, ruD, lenStr, Int.reduceBEq, Int.reduceBNe, a3.lenS, e0]
    exact whole
end Go.Eng
