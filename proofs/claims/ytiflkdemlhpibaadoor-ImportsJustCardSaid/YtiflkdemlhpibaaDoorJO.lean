/- The law ImportsJust. -/
import Derived.Test.YtiflkdemlhpibaaDoorJN
set_option linter.unusedVariables false
set_option linter.unusedSimpArgs false
set_option linter.unusedSectionVars false
set_option maxRecDepth 100000
namespace Go.Eng
open Go Go.Proofs

/-! ### plainly -/
def missB (l : List En) (ps : List (List UInt8)) : Bool := ps.any fun p => (findN l p).isNone
def ringB (l : List En) (n : Nat) (ps : List (List UInt8)) : Bool := ps.any fun p => decide ((n : Int) ∈ reachI p l)
def missA (l : List En) (ns : List Nat) : Bool := ns.any fun n => missB l (impN l n)
def ringA (l : List En) (ns : List Nat) : Bool := ns.any fun n => ringB l n (impN l n)
/-- What is asked of the answer. -/
def Fin (l : List En) (e : Int) (nm : List UInt8) (M R : Bool) : Prop := (e = 0 ∧ M = false ∧ R = false) ∨ (e = 160 ∧ M = true ∧ findN l nm = none) ∨ (e = 161 ∧ R = true ∧ ∃ k, findN l nm = some k)
theorem ring_out {l : List En} {s : Dfs} (hs : DInv l s) {n j : Nat} {p : List UInt8} (hn : n ∈ s.ord) (hp : p ∈ impN l n) (hf : findN l p = some j) (hr : Rch l j n) : False := by
  obtain ⟨a, b, hab⟩ := List.append_of_mem hn
  obtain ⟨j', hj', hja⟩ := hs.ahead a n b hab p hp
  rw [hf] at hj'; injection hj' with hj'; subst hj'
  obtain ⟨a1, a2, ha⟩ := List.append_of_mem hja
  have cl : ∀ x y, x ∈ a1 ++ [j] → edge l x y → y ∈ a1 ++ [j] := by
    rintro x y hx ⟨p', hp', hf'⟩
    rcases List.mem_append.1 hx with hx | hx
    · obtain ⟨c1, c2, hc⟩ := List.append_of_mem hx
      obtain ⟨y', h1, h2⟩ := hs.ahead c1 x (c2 ++ j :: (a2 ++ n :: b)) (by rw [hab, ha, hc]; simp) p' hp'
      rw [hf'] at h1; injection h1 with h1; subst h1
      rw [hc]; simp [h2]
    · simp only [List.mem_singleton] at hx; subst hx
      obtain ⟨y', h1, h2⟩ := hs.ahead a1 x (a2 ++ n :: b) (by rw [hab, ha]; simp) p' hp'
      rw [hf'] at h1; injection h1 with h1; subst h1
      simp [h2]
  have hn2 : n ∈ a1 ++ [j] := hr.closed (S := fun k => k ∈ a1 ++ [j]) cl (by simp)
  have nd := hs.nod
  rw [hab] at nd
  have : n ∈ a := by rw [ha]; rcases List.mem_append.1 hn2 with h | h
                     · simp [h]
                     · simp only [List.mem_singleton] at h; simp [h]
  exact (List.nodup_append.1 nd).2.2 n this n (by simp) rfl
/-- The answer is just. -/
theorem just_fin {l : List En} (hd : Dist l) (hn : l.length ≤ 31) {r : Nat} {e : En} (he : l[r]? = some e) : Fin l (orderN e.P l).2.2 (orderN e.P l).2.1 (missA l (reachN e.P l)) (ringA l (reachN e.P l)) := by
  have hm := may_small hd (by omega)
  have hf := find_self hd he
  have hr := (List.getElem?_eq_some_iff.1 he).1
  have w := dfs_root hr
  have mem : ∀ k, k ∈ reachN e.P l ↔ Rch l r k := fun k => by
    have := rnd_root l e.P k
    unfold reachN
    rw [this, hf]
    constructor
    · rintro ⟨i, hi, h⟩; injection hi with hi; subst hi; exact h
    · intro h; exact ⟨r, rfl, h⟩
  have e1 : orderN e.P l = match (dfs l 33 r (dfs0 l)).2 with
    | some (p, e) => ([], p, e)
    | none => ((dfs l 33 r (dfs0 l)).1.ord, [], 0) := by
    simp only [orderN, hf, hm]; rfl
  cases hr2 : (dfs l 33 r (dfs0 l)).2 with
  | some x =>
    rw [hr2] at w e1
    rw [e1]
    rcases w with ⟨_, h⟩ | ⟨h1, h2, y, h3, h4⟩ | ⟨h1, y, k, h2, h3, h4, h5⟩
    · omega
    · refine .inr (.inl ⟨h1, ?_, h2⟩)
      unfold missA missB
      rw [List.any_eq_true]
      refine ⟨y, (mem y).2 h3, ?_⟩
      rw [List.any_eq_true]
      exact ⟨x.1, h4, by rw [h2]; rfl⟩
    · refine .inr (.inr ⟨h1, ?_, k, h4⟩)
      unfold ringA ringB
      rw [List.any_eq_true]
      refine ⟨y, (mem y).2 h2, ?_⟩
      rw [List.any_eq_true]
      exact ⟨x.1, h3, decide_eq_true (reach_mem.2 ⟨k, h4, h5⟩)⟩
  | none =>
    rw [hr2] at w e1
    rw [e1]
    obtain ⟨w1, w2, _⟩ := w
    refine .inl ⟨rfl, ?_, ?_⟩
    · unfold missA missB
      rw [List.any_eq_false]
      intro n hn'
      rw [Bool.not_eq_true, List.any_eq_false]
      intro p hp
      obtain ⟨i, hi⟩ := List.mem_iff_getElem?.1 ((w2 n).2 ((mem n).1 hn'))
      obtain ⟨j, hj, _⟩ := (behind_at w1 hi).2 p hp
      rw [hj]; simp
    · unfold ringA ringB
      rw [List.any_eq_false]
      intro n hn'
      rw [Bool.not_eq_true, List.any_eq_false]
      intro p hp
      have : ¬ ((n : Int) ∈ reachI p l) := fun h => by
        obtain ⟨j, hj, hjn⟩ := reach_mem.1 h
        exact ring_out w1 ((w2 n).2 ((mem n).1 hn')) hp hj hjn
      simpa using this

/-! ### the law -/
theorem fI_neg {o : Option Nat} : decide (fI o < 0) = o.isNone := by
  cases o with
  | none => rfl
  | some k => exact decide_eq_false (by simp only [fI]; omega)
theorem fI_pos {o : Option Nat} : decide (fI o ≥ 0) = o.isSome := by
  cases o with
  | none => rfl
  | some k => simp [fI]
section
variable {Hb : Heap} {l : List En} {w q nm : Value} {e9 : Int} {P : List UInt8} (hf : Sli (all Hb) Hb l w) (hk : Eok l) (hm : mayN l = 0) (hT : ∀ p, todo l [p] [] ≤ 1000000000) (hl : l.length ≤ 20)
theorem reachN_len (l : List En) (p : List UInt8) : (reachN p l).length ≤ l.length := by
  unfold reachN picks
  have h2 := List.length_filter_le (fun k => decide ((rndF l l.length (start l p))[k]? = some true)) (List.range (rndF l l.length (start l p)).length)
  have h4 : (start l p).length = l.length := by unfold start; split <;> simp
  have h5 := (rndF_word (l := l) l.length (start l p) h4).1
  simp only [List.length_range] at h2
  omega
include hf hk hm hT hl
theorem just_L1 {n : Nat} {e : En} (he : l[n]? = some e) {t : Nat} (ht : t < 9223372036854775807) : ∀ (r k : Nat) (H : Heap) (ms rg : Bool), k + r = e.I.length → Keep (all Hb) Hb H →
    ∃ H' N, Keep (all Hb) Hb H' ∧ ∀ n' m, N ≤ n' → N ≤ m → ∀ R0, f4_L1 real (AC n') n' R0 m w nm (.int .i64 e9) q (.bool ms) (.bool rg) (.int .i64 (t : Int)) (.int .i64 (n : Int)) (.int .i64 (k : Int)) H =
      R0 w nm (.int .i64 e9) q (.bool (ms || missB l (e.I.drop k))) (.bool (rg || ringB l n (e.I.drop k))) (.int .i64 ((t + 1 : Nat) : Int)) H' := by
  have hI := hk.i e (List.mem_of_getElem? he)
  obtain ⟨b, o, wi, a1, a4, a3⟩ := en_at0 hf he
  intro r
  induction r with
  | zero =>
    intro k H ms rg hkr hK
    refine ⟨H, 1, hK, fun n' m h1 h2 R0 => ?_⟩
    obtain ⟨m, rfl⟩ : ∃ q, m = q + 1 := ⟨m - 1, by omega⟩
    have e1 : e.I.drop k = [] := List.drop_eq_nil_of_le (by omega)
    rw [f4_L1.eq_2, e1]
    simp only [ruA, ruB, ruC, ruE, ruD, lenStr, Int.reduceBEq, Int.reduceBNe, a1, (a3 H hK).2, a4.lenS, idx_ge (show e.I.length ≤ k by omega), idx_up ht, missB, ringB, List.any_nil, Bool.or_false]
  | succ r ih =>
    intro k H ms rg hkr hK
    obtain ⟨p, h1, h2⟩ := drop_at (l := e.I) (i := k) (by omega)
    obtain ⟨a, c1, c2⟩ := (a4.keep hK).at1 (STRL_at h1)
    obtain ⟨N1, g1⟩ := place_ok (p := p) (hf.up hK) hk.n
    obtain ⟨H1, qv, ⟨N2, g2⟩, k1, _, s1⟩ := reach_ok (hf.up hK) hk p (hT p)
    have s1 := s1 hm
    rw [reach_same] at s1
    have s1 : Sl (all H1) H1 1 qv (reachI p l).length (I (reachI p l)) := s1
    have rl := reachN_len l p
    have hrl : (reachI p l).length = (reachN p l).length := by simp [reachI]
    obtain ⟨N3, g3⟩ := has_ok (z := (n : Int)) (a := (reachI p l).length) s1 (by omega)
    rw [List.take_length] at g3
    rw [hm] at g2
    obtain ⟨H', N, i1, i2⟩ := ih (k + 1) H1 (ms || (findN l p).isNone) (rg || decide ((n : Int) ∈ reachI p l)) (by omega) (hK.tr k1)
    refine ⟨H', N + N1 + N2 + N3 + 1, i1, fun n' m x1 x2 R0 => ?_⟩
    obtain ⟨m, rfl⟩ : ∃ q, m = q + 1 := ⟨m - 1, by omega⟩
    have q1 : AC n' 13 [w, .string (bs p)] H = some (.int .i64 (fI (findN l p)), H) := g1 n' n' (by omega) (by omega)
    have q2 : AC n' 11 [.string (bs p), w] H = some (.tuple #[qv, .int .i64 0], H1) := g2 n' n' (by omega) (by omega)
    have q3 : AC n' 12 [qv, .int .i64 (n : Int), .int .i64 ((reachI p l).length : Int)] H1 = some (.bool (decide ((n : Int) ∈ reachI p l)), H1) := g3 n' n' (by omega) (by omega)
    have ez : ((0 : Int) != 0) = false := rfl
    have em : missB l (e.I.drop k) = ((findN l p).isNone || missB l (e.I.drop (k + 1))) := by rw [h2]; rfl
    have er : ringB l n (e.I.drop k) = (decide ((n : Int) ∈ reachI p l) || ringB l n (e.I.drop (k + 1))) := by rw [h2]; rfl
    have fin := i2 n' m (by omega) (by omega) R0
    rw [em, er, ← Bool.or_assoc, ← Bool.or_assoc]
    rw [f4_L1.eq_2]
    have up := idx_up (show k < 9223372036854775807 by omega)
    cases ms <;> cases rg <;>
      simp only [ruA, ruB, ruC, ruE, ruD, lenStr, Int.reduceBEq, Int.reduceBNe, a1, (a3 H hK).2, a4.lenS, idx_lt (show k < e.I.length by omega), c1, c2, q1, fI_neg, q2, ez, s1.lenS, q3, up, Bool.false_or, Bool.true_or] <;>
      simpa only [Bool.false_or, Bool.true_or] using fin
theorem just_L0 (hq : Sl (all Hb) Hb 1 q (reachI P l).length (I (reachI P l))) {nmP : List UInt8} (hnm : nm = .string (bs nmP)) : ∀ (r t : Nat) (H : Heap) (ms rg : Bool), t + r = (reachN P l).length → Keep (all Hb) Hb H →
    Fin l e9 nmP (ms || missA l ((reachN P l).drop t)) (rg || ringA l ((reachN P l).drop t)) →
    ∃ H', Keep (all Hb) Hb H' ∧ Ev (fun n m => f4_L0 real (AC n) n m w nm (.int .i64 e9) q (.bool ms) (.bool rg) (.int .i64 (t : Int)) H) (.bool true, H') := by
  have hrl : (reachI P l).length = (reachN P l).length := by simp [reachI]
  have rl := reachN_len l P
  intro r
  induction r with
  | zero =>
    intro t H ms rg hr hK hfin
    have e1 : (reachN P l).drop t = [] := List.drop_eq_nil_of_le (by omega)
    rw [e1] at hfin
    simp only [missA, ringA, List.any_nil, Bool.or_false] at hfin
    have lq : lenS q = some (.int .i64 ((reachN P l).length : Int)) := by rw [hq.lenS, hrl]
    refine ⟨H, hK, ?_⟩
    have pl := place_ok (p := nmP) (hf.up hK) hk.n
    rcases hfin with ⟨rfl, rfl, rfl⟩ | ⟨rfl, rfl, h3⟩ | ⟨rfl, rfl, kk, h3⟩
    · have ez : ((0 : Int) == 0) = true := rfl
      refine Ev.step (fun n m => f4_L0.eq_2 _ _ _ _ _ _ _ _ _ _ _ _) ?_
      simp only [ruA, ruB, ruC, ruE, ruD, lenStr, Int.reduceBEq, Int.reduceBNe, lq, idx_ge (show (reachN P l).length ≤ t by omega), ez]
      refine Ev.callC (awake_ok H) ?_
      exact Ev.pure _
    · rw [h3] at pl
      have z1 : ((160 : Int) == 0) = false := rfl
      have z2 : ((160 : Int) == 160) = true := rfl
      have z3 : decide ((-1 : Int) < 0) = true := rfl
      subst hnm
      refine Ev.step (fun n m => f4_L0.eq_2 _ _ _ _ _ _ _ _ _ _ _ _) ?_
      simp only [ruA, ruB, ruC, ruE, ruD, lenStr, Int.reduceBEq, Int.reduceBNe, lq, idx_ge (show (reachN P l).length ≤ t by omega), z1, z2]
      refine Ev.callC pl ?_
      simp only [ruA, ruB, ruC, ruE, ruD, lenStr, Int.reduceBEq, Int.reduceBNe, fI, z3]
      refine Ev.callC (awake_ok H) ?_
      exact Ev.pure _
    · rw [h3] at pl
      have z1 : ((161 : Int) == 0) = false := rfl
      have z2 : ((161 : Int) == 160) = false := rfl
      have z4 : ((161 : Int) == 161) = true := rfl
      have z3 : decide ((kk : Int) ≥ 0) = true := decide_eq_true (by omega)
      subst hnm
      refine Ev.step (fun n m => f4_L0.eq_2 _ _ _ _ _ _ _ _ _ _ _ _) ?_
      simp only [ruA, ruB, ruC, ruE, ruD, lenStr, Int.reduceBEq, Int.reduceBNe, lq, idx_ge (show (reachN P l).length ≤ t by omega), z1, z2, z4]
      refine Ev.callC pl ?_
      simp only [ruA, ruB, ruC, ruE, ruD, lenStr, Int.reduceBEq, Int.reduceBNe, fI, z3]
      refine Ev.callC (awake_ok H) ?_
      exact Ev.pure _
  | succ r ih =>
    intro t H ms rg hr hK hfin
    obtain ⟨n, h1, h2⟩ := drop_at (l := reachN P l) (i := t) (by omega)
    have lq : lenS q = some (.int .i64 ((reachN P l).length : Int)) := by rw [hq.lenS, hrl]
    have hnl : n < l.length := by
      have := List.mem_of_getElem? h1
      unfold reachN picks at this
      have := (List.mem_filter.1 this).1
      have h4 : (start l P).length = l.length := by unfold start; split <;> simp
      have h5 := (rndF_word (l := l) l.length (start l P) h4).1
      rw [List.mem_range, h5] at this
      exact this
    obtain ⟨e, he⟩ : ∃ e, l[n]? = some e := ⟨_, List.getElem?_eq_getElem hnl⟩
    have him : impN l n = e.I := by simp only [impN, he]
    obtain ⟨pa, b1, b2⟩ := (hq.up hK).at1 (I_at (i := t) (x := (n : Int)) (by simp [reachI, h1]))
    obtain ⟨H1, N1, c1, c2⟩ := just_L1 (nm := nm) (q := q) (e9 := e9) hf hk hm hT hl he (t := t) (by omega) e.I.length 0 H ms rg (by omega) hK
    rw [List.drop_zero] at c2
    have em : missA l ((reachN P l).drop t) = (missB l e.I || missA l ((reachN P l).drop (t + 1))) := by rw [h2, ← him]; rfl
    have er : ringA l ((reachN P l).drop t) = (ringB l n e.I || ringA l ((reachN P l).drop (t + 1))) := by rw [h2, ← him]; rfl
    rw [em, er, ← Bool.or_assoc, ← Bool.or_assoc] at hfin
    obtain ⟨H', d1, N, d2⟩ := ih (t + 1) H1 (ms || missB l e.I) (rg || ringB l n e.I) (by omega) c1 hfin
    refine ⟨H', d1, N + N1 + 1, fun n' m x1 x2 => ?_⟩
    obtain ⟨m, rfl⟩ : ∃ q, m = q + 1 := ⟨m - 1, by omega⟩
    show f4_L0 real (AC n') n' (m + 1) w nm (.int .i64 e9) q (.bool ms) (.bool rg) (.int .i64 (t : Int)) H = _
    rw [f4_L0.eq_2]
    have z1 : decide ((n : Int) < 0) = false := decide_eq_false (by omega)
    have z2 : decide ((n : Int) ≥ (l.length : Int)) = false := decide_eq_false (by omega)
    have c2 := c2 n' n' (by omega) (by omega) (f4_L0 real (AC n') n' m)
    have e0 : ((0 : Nat) : Int) = 0 := rfl
    rw [e0] at c2
    simp only [ruA, ruB, ruC, ruE, ruD, lenStr, Int.reduceBEq, Int.reduceBNe, lq, idx_lt (show t < (reachN P l).length by omega), b1, b2, z1, hf.lenS, z2]
    exact c2.trans (d2 n' m (by omega) (by omega))
end
/-- ImportsJust. -/
theorem just_law {H0 : Heap} {l : List (List Int)} {v : Value} (hf : Sli (all H0) H0 l v) {z : Int} (hz : inI z) : ∃ H', Cl 4 [v, .int .i64 z] H0 (.bool true) H' ∧ Keep (all H0) H0 H' := by
  obtain ⟨H1, w, a1, a2, a3⟩ := net_ok hf
  have hk := netN_ok l
  have hd := netN_dist l
  have hln := netN_len l
  have hm := may_small hd (by omega)
  by_cases h0 : (netN l).length = 0
  · refine ⟨H1, ?_, a2⟩
    refine Ev.enter (fun n => f4_eq rfl n _ _ _) ?_
    have e0 : (((netN l).length : Int) == 0) = true := by rw [h0]; rfl
    simp only [f4, ruA, ruB, ruC, ruE, ruD, lenStr, Int.reduceBEq, Int.reduceBNe]
    refine Ev.callC a1 ?_
    simp only [ruA, ruB, ruC, ruE, ruD, lenStr, Int.reduceBEq, Int.reduceBNe, a3.lenS, e0]
    refine Ev.callC (awake_ok H1) ?_
    exact Ev.pure _
  · have e0 : (((netN l).length : Int) == 0) = false := beq_eq_false_iff_ne.2 (by omega)
    have c1 := bring_ok (i := z) (n := ((netN l).length : Int)) hz (by omega) H1
    have br := bring_nat (i := z) (n := (netN l).length) (by omega)
    rw [br.1] at c1
    generalize (bringN z ((netN l).length : Int)).toNat = r at *
    obtain ⟨e, he⟩ : ∃ e, (netN l)[r]? = some e := ⟨_, List.getElem?_eq_getElem br.2⟩
    obtain ⟨b, o, wi, d1, _, d3⟩ := en_at0 a3 he
    obtain ⟨H2, ov, x1, x2, x3⟩ := order_ok a3 hk e.P
    obtain ⟨H3, qv, g1, g2, _, g3⟩ := reach_ok (a3.up x2) hk e.P (net_todo l e.P)
    have g3 := g3 hm
    rw [hm] at g1
    rw [reach_same] at g3
    have g3 : Sl (all H3) H3 1 qv (reachI e.P (netN l)).length (I (reachI e.P (netN l))) := g3
    have K := (a2.tr x2).tr g2
    have ez : ((0 : Int) != 0) = false := rfl
    have p1 := (d3 H1 (Keep.refl _ _)).1
    have p2 := (d3 H2 x2).1
    have fin := just_fin hd (by omega) he
    obtain ⟨H', k', main⟩ := just_L0 (P := e.P) (a3.up (x2.tr g2)) hk hm (net_todo l) (by omega) g3 (nmP := (orderN e.P (netN l)).2.1) rfl (reachN e.P (netN l)).length 0 H3 false false (by omega) (Keep.refl _ _) (by rw [List.drop_zero, Bool.false_or, Bool.false_or]; exact fin)
    have main := main.loop
    refine ⟨H', ?_, K.tr k'⟩
    refine Ev.enter (fun n => f4_eq rfl n _ _ _) ?_
    simp only [f4, ruA, ruB, ruC, ruE, ruD, lenStr, Int.reduceBEq, Int.reduceBNe]
    refine Ev.callC a1 ?_
    simp only [ruA, ruB, ruC, ruE, ruD, lenStr, Int.reduceBEq, Int.reduceBNe, a3.lenS, e0]
    refine Ev.callC c1 ?_
    simp only [ruA, ruB, ruC, ruE, ruD, lenStr, Int.reduceBEq, Int.reduceBNe, d1, p1, Nat.add_zero]
    refine Ev.callC x1 ?_
    simp only [ruA, ruB, ruC, ruE, ruD, lenStr, Int.reduceBEq, Int.reduceBNe, d1, p2, Nat.add_zero]
    refine Ev.callC g1 ?_
    simp only [ruA, ruB, ruC, ruE, ruD, lenStr, Int.reduceBEq, Int.reduceBNe, ez]
    exact main
end Go.Eng
