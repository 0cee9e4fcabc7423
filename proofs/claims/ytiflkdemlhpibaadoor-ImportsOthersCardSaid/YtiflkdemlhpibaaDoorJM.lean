/- Small functions of the laws: place, has, Bring, Itoa; net. -/
import Derived.Test.YtiflkdemlhpibaaDoorJH
import Derived.Test.YtiflkdemlhpibaaDoorJQ
set_option linter.unusedVariables false
set_option linter.unusedSimpArgs false
set_option linter.unusedSectionVars false
set_option maxRecDepth 100000
namespace Go.Eng
open Go Go.Proofs

section
variable {R : Nat → Prop} {H : Heap} {l : List En} {v : Value} {p : List UInt8} (h : Sli R H l v) (hn : l.length ≤ 1000000000000)
include h hn
theorem place_loop : ∀ (k i : Nat), i + k = l.length → Ev (fun n m => f13_L0 real (AC n) n m v (.string (bs p)) (.int .i64 (i : Int)) H) (.int .i64 (fI ((findN (l.drop i) p).map (· + i))), H) := by
  intro k
  induction k with
  | zero =>
    intro i hi
    have e1 : l.drop i = [] := List.drop_eq_nil_of_le (by omega)
    rw [e1]
    refine Ev.step (fun n m => f13_L0.eq_2 _ _ _ _ _ _ _ _) ?_
    simp only [ruA, ruB, ruC, ruE, ruD, lenStr, Int.reduceBEq, Int.reduceBNe, h.lenS, idx_ge (show l.length ≤ i by omega)]
    exact Ev.pure _
  | succ k ih =>
    intro i hi
    obtain ⟨x, h1, h2⟩ := drop_at (l := l) (i := i) (by omega)
    obtain ⟨b, o, w, a1, _, a2, a3, a4, _⟩ := en_at h h1
    have ih := ih (i + 1) (by omega)
    refine Ev.step (fun n m => f13_L0.eq_2 _ _ _ _ _ _ _ _) ?_
    rw [h2]
    by_cases hp : x.P = p
    · simp only [ruA, ruB, ruC, ruE, ruD, lenStr, Int.reduceBEq, Int.reduceBNe, h.lenS, idx_lt (show i < l.length by omega), a1, a2, Nat.add_zero, bs_beq, decide_eq_true hp]
      simp only [findN, if_pos hp, Option.map_some, Nat.zero_add, fI]
      exact Ev.pure _
    · simp only [ruA, ruB, ruC, ruE, ruD, lenStr, Int.reduceBEq, Int.reduceBNe, h.lenS, idx_lt (show i < l.length by omega), a1, a2, Nat.add_zero, bs_beq, decide_eq_false hp, idx_up (show i < 9223372036854775807 by omega)]
      have e : ((findN (x :: l.drop (i + 1)) p).map (· + i)) = (findN (l.drop (i + 1)) p).map (· + (i + 1)) := by
        simp only [findN, if_neg hp]
        cases findN (l.drop (i + 1)) p with
        | none => rfl
        | some j => simp only [Option.map_some]; congr 1; omega
      rw [e]
      exact ih
/-- Where a path's file is: the law's own. -/
theorem place_ok : Cl 13 [v, .string (bs p)] H (.int .i64 (fI (findN l p))) H := by
  have e : ((findN (l.drop 0) p).map (· + 0)) = findN l p := by
    rw [List.drop_zero]
    cases findN l p <;> rfl
  have m := (place_loop (p := p) h hn l.length 0 (by omega)).loop
  rw [e] at m
  refine Ev.enter (fun n => f13_eq rfl n _ _ _) ?_
  simp only [f13, ruA, ruB, ruC, ruE, ruD, lenStr, Int.reduceBEq, Int.reduceBNe]
  exact m
end
/-! ### has -/
section
variable {R : Nat → Prop} {H : Heap} {xs : List Int} {v : Value} {z : Int} (h : Sl R H 1 v xs.length (I xs)) (hn : xs.length ≤ 1000000000000)
include h hn
theorem has_loop {a : Nat} : ∀ (k i : Nat), i + k = xs.length → Ev (fun n m => f12_L0 real (AC n) n m v (.int .i64 z) (.int .i64 (a : Int)) (.int .i64 (i : Int)) H) (.bool (decide (z ∈ (xs.take a).drop i)), H) := by
  intro k
  induction k with
  | zero =>
    intro i hi
    have e1 : (xs.take a).drop i = [] := List.drop_eq_nil_of_le (by simp only [List.length_take]; omega)
    rw [e1]
    refine Ev.step (fun n m => f12_L0.eq_2 _ _ _ _ _ _ _ _ _) ?_
    simp only [ruA, ruB, ruC, ruE, ruD, lenStr, Int.reduceBEq, Int.reduceBNe, h.lenS, idx_ge (show xs.length ≤ i by omega), List.not_mem_nil, decide_false]
    exact Ev.pure _
  | succ k ih =>
    intro i hi
    obtain ⟨x, h1, h2⟩ := drop_at (l := xs) (i := i) (by omega)
    obtain ⟨p, a1, a2⟩ := h.at1 (I_at h1)
    have ih := ih (i + 1) (by omega)
    refine Ev.step (fun n m => f12_L0.eq_2 _ _ _ _ _ _ _ _ _) ?_
    by_cases ha : i < a
    · have e1 : (xs.take a).drop i = x :: (xs.take a).drop (i + 1) := by
        have hl : i < (xs.take a).length := by simp only [List.length_take]; omega
        rw [List.drop_eq_getElem_cons hl]
        congr 1
        have : (xs.take a)[i]? = some x := by rw [List.getElem?_take, if_pos ha]; exact h1
        exact (List.getElem?_eq_some_iff.1 this).2
      rw [e1]
      by_cases hx : x = z
      · subst hx
        have e : (x == x) = true := by simp
        simp only [ruA, ruB, ruC, ruE, ruD, lenStr, Int.reduceBEq, Int.reduceBNe, h.lenS, idx_lt (show i < xs.length by omega), idx_lt ha, a1, a2, e, List.mem_cons, true_or, decide_true]
        exact Ev.pure _
      · have e : (x == z) = false := by simpa using hx
        have hx' : ¬ z = x := fun h => hx h.symm
        simp only [ruA, ruB, ruC, ruE, ruD, lenStr, Int.reduceBEq, Int.reduceBNe, h.lenS, idx_lt (show i < xs.length by omega), idx_lt ha, a1, a2, e, idx_up (show i < 9223372036854775807 by omega), List.mem_cons, hx', false_or]
        exact ih
    · have e1 : (xs.take a).drop i = [] := List.drop_eq_nil_of_le (by simp only [List.length_take]; omega)
      rw [e1]
      simp only [ruA, ruB, ruC, ruE, ruD, lenStr, Int.reduceBEq, Int.reduceBNe, h.lenS, idx_lt (show i < xs.length by omega), idx_ge (show a ≤ i by omega), List.not_mem_nil, decide_false]
      exact Ev.pure _
/-- Is a number in a list, ahead of a place? -/
theorem has_ok {a : Nat} : Cl 12 [v, .int .i64 z, .int .i64 (a : Int)] H (.bool (decide (z ∈ xs.take a))) H := by
  have m := (has_loop (z := z) (a := a) h hn xs.length 0 (by omega)).loop
  rw [List.drop_zero] at m
  refine Ev.enter (fun n => f12_eq rfl n _ _ _ _) ?_
  simp only [f12, ruA, ruB, ruC, ruE, ruD, lenStr, Int.reduceBEq, Int.reduceBNe]
  exact m
end
/-! ### numbers -/
theorem bring_ok {i n : Int} (hi : inI i) (hn : 0 ≤ n ∧ n < 9223372036854775807) (H : Heap) : Cl 9 [.int .i64 i, .int .i64 n] H (.int .i64 (bringN i n)) H := by
  refine Ev.enter (fun m => f9_eq rfl m _ _ _) ?_
  unfold bringN
  by_cases h : n ≤ 0
  · simp only [f9, ruA, ruB, ruC, ruE, ruD, lenStr, Int.reduceBEq, Int.reduceBNe, eq_true h, if_pos h]
    simp only [if_true]
    exact Ev.pure _
  · have h1 := Int.tmod_lt_of_pos i (show 0 < n by omega)
    have h2 := Int.lt_tmod_of_pos i (show 0 < n by omega)
    have hr : binB Tryd.prog .rem 3 (.int .i64 i) (.int .i64 n) = some (.int .i64 (Int.tmod i n)) := by
      have e : IntKind.i64.wrap (Int.tmod i n) = Int.tmod i n := wrap_i64 (by omega) (by omega)
      have hne : ¬ n = 0 := by omega
      first
        | simp [binB, intB, hne, e]
    rw [if_neg h]
    by_cases h0 : Int.tmod i n < 0
    · simp only [f9, ruA, ruB, ruC, ruE, ruD, lenStr, Int.reduceBEq, Int.reduceBNe, eq_false h, hr, eq_true h0, if_pos h0]
      rw [wrap_i64 (by omega) (by omega)]
      exact Ev.pure _
    · simp only [f9, ruA, ruB, ruC, ruE, ruD, lenStr, Int.reduceBEq, Int.reduceBNe, eq_false h, hr, eq_false h0, if_neg h0]
      exact Ev.pure _
theorem bring_nat {i : Int} {n : Nat} (h : 0 < n) : bringN i (n : Int) = (((bringN i (n : Int)).toNat : Nat) : Int) ∧ (bringN i (n : Int)).toNat < n := by
  have := bring_in (i := i) (n := (n : Int)) (by omega)
  omega
theorem ito_ok {k : Nat} (hk : k < 100) (H : Heap) : Cl 14 [.int .i64 (k : Int)] H (.string (bs (dg2 k))) H := ⟨1, fun n m h1 _ => by
  obtain ⟨n, rfl⟩ : ∃ k, n = k + 1 := ⟨n - 1, by omega⟩
  refine (acall_ext Tryd.func14 (by kernel_rfl) (by kernel_rfl) (g := itoX) rfl n _ H).trans ?_
  simp only [itoX]
  rw [if_pos ⟨by omega, by omega⟩, Int.toNat_natCast]⟩
theorem b_sadd {P : Program} {t : TypeId} {a b : List UInt8} (h : a.length + b.length < 9223372036854775807) : binB P .add t (.string (bs a)) (.string (bs b)) = some (.string (bs (a ++ b))) := by
  simp only [binB, strB, bs_size]
  rw [if_neg (by simp only [IntKind.max, IntKind.bits, IntKind.signed]; simp; omega), bs_append]
theorem f_add {k : Nat} : binB Tryd.prog .add 9 (.string ⟨#[102]⟩) (.string (bs (dg2 k))) = some (.string (bs (fname k))) := by
  have e : (⟨#[102]⟩ : ByteArray) = bs [102] := rfl
  rw [e, b_sadd]
  · rfl
  · unfold dg2; split <;> simp

/-! ### net -/
theorem row_at {R : Nat → Prop} {H : Heap} {l : List (List Int)} {v : Value} (h : Sli R H l v) {i : Nat} {zs : List Int} (hz : l[i]? = some zs) : ∃ a w, iAddrS 1 v (.int .i64 (i : Int)) = some a ∧ ldC a H = some (w, H) ∧ Sli R H zs w ∧ ∃ b o, a = ptr b o ∧ R b := by
  obtain ⟨b, o, c, a1, a2, a3, a4, _⟩ := h.at hz
  obtain ⟨w, rfl, s⟩ := a3
  exact ⟨ptr b o, w, a1, a4 0 _ rfl, s, b, o, rfl, a2⟩
theorem int_at {R : Nat → Prop} {H : Heap} {zs : List Int} {w : Value} (h : Sli R H zs w) {k : Nat} {z : Int} (hz : zs[k]? = some z) : ∃ a, iAddrS 1 w (.int .i64 (k : Int)) = some a ∧ ldC a H = some (.int .i64 z, H) ∧ inI z := by
  obtain ⟨b, o, c, a1, a2, a3, a4, _⟩ := h.at hz
  obtain ⟨rfl, a3⟩ := a3
  exact ⟨ptr b o, a1, a4 0 _ rfl, a3⟩
section
variable {H0 : Heap} {l : List (List Int)} {v : Value} (hf : Sli (all H0) H0 l v)
include hf
theorem net_L1 {i : Nat} {zs : List Int} (hz : l[i]? = some zs) {N : Nat} (hN : N ≤ 20) {Hb : Heap} (hb : H0.n ≤ Hb.n) {X : Nat} (hX : X < Hb.n) (hX0 : H0.n ≤ X) {P : List UInt8} {vo : Value} :
    ∀ (r k : Nat) (H : Heap) (vI : Value), k + r = min zs.length 6 → Keep (But Hb X) Hb H → Keep (all H0) H0 H → H.get X = some ⟨[.string (bs P), vI], 1, true⟩ → Acc (all Hb) H 1 vI (lets N (zs.take k)).length (STRL (lets N (zs.take k))) →
    ∃ H' vI' M, Keep (But Hb X) Hb H' ∧ Keep (all H0) H0 H' ∧ H'.get X = some ⟨[.string (bs P), vI'], 1, true⟩ ∧ Acc (all Hb) H' 1 vI' (lets N zs).length (STRL (lets N zs)) ∧
      ∀ n m, M ≤ n → ∀ R0, f7_L1 real (AC n) n R0 (m + r) v (.int .i64 (N : Int)) vo (.int .i64 (i : Int)) (ptr X 0) (.int .i64 (k : Int)) H = f7_L1 real (AC n) n R0 m v (.int .i64 (N : Int)) vo (.int .i64 (i : Int)) (ptr X 0) (.int .i64 ((min zs.length 6 : Nat) : Int)) H' := by
  intro r
  induction r with
  | zero =>
    intro k H vI hk hK hK0 hg hA
    have e : lets N (zs.take k) = lets N zs := by
      unfold lets
      congr 1
      rw [List.take_take]
      by_cases h : zs.length ≤ 6
      · rw [List.take_of_length_le (by omega), List.take_of_length_le h]
      · rw [show min 6 k = 6 by omega]
    rw [e] at hA
    exact ⟨H, vI, 0, hK, hK0, hg, hA, fun n m _ R0 => by rw [show k = min zs.length 6 by omega]; rfl⟩
  | succ r ih =>
    intro k H vI hk hK hK0 hg hA
    obtain ⟨z, hzk⟩ : ∃ z, zs[k]? = some z := ⟨_, List.getElem?_eq_getElem (by omega)⟩
    obtain ⟨a, w, a1, a2, a3, ab, ao, rfl, a4⟩ := row_at (hf.keep hK0) hz
    obtain ⟨b, b1, b2, b3⟩ := int_at a3 hzk
    obtain ⟨M1, g1⟩ := bring_ok (i := z) (n := ((N + 1 : Nat) : Int)) b3 (by omega) H
    have br := bring_nat (i := z) (n := N + 1) (by omega)
    obtain ⟨M2, g2⟩ := ito_ok (k := (bringN z ((N + 1 : Nat) : Int)).toNat) (by omega) H
    have l1 : ldC (ptr X 1) H = some (vI, H) := own_ld hg rfl
    have hlen : (lets N (zs.take k)).length ≤ 10000 := by simp only [lets, List.length_map, List.length_take]; omega
    obtain ⟨vI', H1, n1, n2, n3, n4⟩ := name_app (H0 := Hb) (s := fname (bringN z ((N + 1 : Nat) : Int)).toNat) hK.1 hA hlen
    have hXv : blkOf vI ≠ some X := fun e => (hA.at e).1 hX
    have hXH : X < H.n := Nat.lt_of_lt_of_le hX hK.1
    have c1 := stV1_box (k := 1) (w := vI') ((n3.2 X ⟨hXH, hXv⟩).trans hg) (by simp) n2.oneC.2 n2.oneC.1
    obtain ⟨H2, hH2⟩ : ∃ H2, H2 = H1.upd X (some ⟨[.string (bs P), vI'], 1, true⟩) := ⟨_, rfl⟩
    have c1 : stV 1 (ptr X 1) vI' H1 = some (undef, H2) := by rw [hH2]; exact c1
    have hXv' : blkOf vI' ≠ some X := fun e => (n2.at e).1 hX
    have el : lets N (zs.take k) ++ [fname (bringN z ((N + 1 : Nat) : Int)).toNat] = lets N (zs.take (k + 1)) := by
      unfold lets
      rw [List.take_take, List.take_take, show min 6 k = k by omega, show min 6 (k + 1) = k + 1 by omega, List.take_add_one, hzk, List.map_append]
      rfl
    rw [el] at n2
    have hB : ∀ q, Hb.n ≤ q → True := fun _ _ => trivial
    have K1 : Keep (But Hb X) Hb H1 := hK.trans (n3.mono fun q hq => ⟨Nat.lt_of_lt_of_le hq.1 hK.1, fun e => (hA.at e).1 hq.1⟩)
    have K2 : Keep (But Hb X) Hb H2 := by rw [hH2]; exact K1.trans (Keep.upd fun h => h.2 rfl)
    have K0 : Keep (all H0) H0 H2 := ⟨by have := K2.1; omega, fun q hq => by
      have hq : q < H0.n := hq
      rw [hH2, upd_ne (by omega), n3.2 q ⟨by have := hK.1; omega, fun e => (hA.at e).1 (by show q < Hb.n; omega)⟩, hK0.2 q hq]⟩
    obtain ⟨H', vI2, M, r1, r2, r3, r4, r5⟩ := ih (k + 1) H2 vI' (by omega) K2 K0 (by rw [hH2]; exact upd_self) (by rw [hH2]; exact n2.box hXv' upd_butQ)
    refine ⟨H', vI2, max M (max M1 M2), r1, r2, r3, r4, fun n m hM R0 => ?_⟩
    rw [show m + (r + 1) = (m + r) + 1 by omega, f7_L1.eq_2]
    have k6 : decide ((k : Int) < 6) = true := decide_eq_true (by omega)
    have q1 : AC n 9 [.int .i64 z, .int .i64 ((N + 1 : Nat) : Int)] H = some (.int .i64 (((bringN z ((N + 1 : Nat) : Int)).toNat : Nat) : Int), H) := by rw [← br.1]; exact g1 n n (by omega) (by omega)
    have q2 : AC n 14 [.int .i64 (((bringN z ((N + 1 : Nat) : Int)).toNat : Nat) : Int)] H = some (.string (bs (dg2 (bringN z ((N + 1 : Nat) : Int)).toNat)), H) := g2 n n (by omega) (by omega)
    have sb : sameBlk H H (blkOf (ptr X 1)) = true := sameBlk_of fun c hc => rfl
    simp only [ruA, ruB, ruC, ruE, ruD, lenStr, Int.reduceBEq, Int.reduceBNe, a1, a2, a3.lenS, idx_lt (show k < zs.length by omega), k6, l1, b1, b2, idx_up (show N < 9223372036854775807 by omega), q1, sb, Bool.true_and, Bool.and_true, q2, f_add, b1s, n1, c1, idx_up (show k < 9223372036854775807 by omega)]
    exact r5 n m (by omega) R0
theorem net_L0 {N : Nat} (hN : N = min l.length 20) : ∀ (r i : Nat) (H : Heap) (L : Nat → Prop) (vo : Value), i + r = N → Keep (all H0) H0 H → AccR H0 H L vo ((netN l).take i) → (∀ b, blkOf vo = some b → L b) → (∀ b, L b → b < H.n ∧ H0.n ≤ b) →
    ∃ H' vo', Ev (fun n m => f7_L0 real (AC n) n m v (.int .i64 (N : Int)) vo (.int .i64 (i : Int)) H) (vo', H') ∧ Keep (all H0) H0 H' ∧ Sli (all H') H' (netN l) vo' := by
  intro r
  induction r with
  | zero =>
    intro i H L vo hi hK hA hv hL
    rw [List.take_of_length_le (by rw [netN_len]; omega)] at hA
    obtain ⟨cs, h1, h2⟩ := hA
    refine ⟨H, vo, ?_, hK, ⟨cs, h1.sl, h2.mono fun b hb => hb.1⟩⟩
    refine Ev.step (fun n m => f7_L0.eq_2 _ _ _ _ _ _ _ _ _) ?_
    simp only [ruA, ruB, ruC, ruE, ruD, lenStr, Int.reduceBEq, Int.reduceBNe, idx_ge (show N ≤ i by omega)]
    exact Ev.pure _
  | succ r ih =>
    intro i H L vo hi hK hA hv hL
    obtain ⟨zs, hz⟩ : ∃ zs, l[i]? = some zs := ⟨_, List.getElem?_eq_getElem (by omega)⟩
    have hm : mostBytes = 140737488355328 := rfl
    obtain ⟨Mi, gi⟩ := ito_ok (k := i) (by omega) H
    obtain ⟨e1, e2, e3, e4, e5⟩ := el_box (H := H) (a := .string (bs (fname i))) (b := .slice none 0 0) (u := .string ⟨#[]⟩) (v := .slice none 0 0) rfl rfl rfl rfl
    have bl : bld [.string ⟨#[]⟩, .slice none 0 0] [(0, 1, .string (bs (fname i)))] H = some (.agg #[.string (bs (fname i)), .slice none 0 0], H) := bldRl
    generalize H.push ⟨[.string (bs (fname i)), .slice none 0 0], 1, true⟩ = H1 at *
    have K1 : Keep (all H0) H0 H1 := hK.trans (e3.mono fun q hq => Nat.lt_of_lt_of_le hq hK.1)
    obtain ⟨H3, w2, M, r1, r2, g3, t2, r5⟩ := net_L1 (vo := vo) hf hz (N := N) (by omega) (Hb := H1) K1.1 (X := H.n) (by omega) hK.1 (P := fname i) (min zs.length 6) 0 H1 nilS (by omega) (Keep.refl _ _) K1 e4 (by simpa [lets] using Acc.nil)
    have KH : Keep (all H) H H3 := ⟨by have := r1.1; omega, fun q hq => by
      have hq : q < H.n := hq
      rw [r1.2 q ⟨by omega, by omega⟩, e3.2 q hq]⟩
    have c5 : Eng.ldA 2 (ptr H.n 0) H3 = some (.agg #[.string (bs (fname i)), w2], H3) := ld2 g3
    have c6 := bldR (H := H3) (s := bs (fname i)) t2.oneC.1 t2.oneC.2
    have hA3 : AccR H0 H3 L vo ((netN l).take i) := hA.move (L' := L) (KH.mono fun q hq => hq.1) (fun q hq => KH.2 q (hL q (hv q hq)).1) fun q hq => ⟨Nat.lt_of_lt_of_le hq.1 KH.1, hq.2⟩
    have sl2 : Sl (Stay H3 L) H3 1 w2 (lets N zs).length (STRL (lets N zs)) := t2.read fun q h1 h2 => ⟨h2, fun hq => by
        have := (hL q hq).1
        have : ¬ q < H1.n := h1
        omega⟩
    have hnet : (netN l)[i]? = some ⟨fname i, lets N zs⟩ := by
      rw [netN_at (by omega), hN]
      simp only [rowOf, hz]
    have hx : Rp.rep (Stay H3 L) H3 (⟨fname i, lets N zs⟩ : En) [.string (bs (fname i)), w2] := rep_en.2 ⟨w2, rfl, sl2⟩
    have hlen : ((netN l).take i).length = i := by rw [List.length_take, netN_len]; omega
    obtain ⟨v', H4, d1, d2, d3, d4⟩ := hA3.add (by_ := 40) r2.1 hx (by rw [hlen]; omega) hv
    have d1 : Eng.app 2 40 vo (.slice (some ⟨H3.n, 0, none⟩) 1 1) (H3.push ⟨[.string (bs (fname i)), w2], 2, true⟩) = some (v', H4) := d1
    rw [← take_up hnet] at d2
    have K4 : Keep (all H0) H0 H4 := r2.trans (d3.mono fun q hq => ⟨Nat.lt_of_lt_of_le hq r2.1, fun hb => by
      have := (hL q (hv q hb)).2
      have : q < H0.n := hq
      omega⟩)
    obtain ⟨H', vo', ⟨Mr, f1⟩, f2, f3⟩ := ih (i + 1) H4 _ v' (by omega) K4 d2 (fun q hq => .inr hq) (fun q hq => by
      rcases hq with hq | hq
      · have := hL q hq
        have := d3.1
        have := KH.1
        exact ⟨by omega, by omega⟩
      · have := d2.at hq
        exact ⟨this.2, this.1⟩)
    refine ⟨H', vo', ⟨M + Mr + Mi + 8, fun n m x1 x2 => ?_⟩, f2, f3⟩
    obtain ⟨m, rfl⟩ : ∃ q, m = q + 1 := ⟨m - 1, by omega⟩
    show f7_L0 real (AC n) n (m + 1) v (.int .i64 (N : Int)) vo (.int .i64 (i : Int)) H = _
    rw [f7_L0.eq_2]
    have q1 : AC n 14 [.int .i64 (i : Int)] H = some (.string (bs (dg2 i)), H) := gi n n (by omega) (by omega)
    simp only [ruA, ruB, ruC, ruE, ruD, lenStr, Int.reduceBEq, Int.reduceBNe, idx_lt (show i < N by omega), q1, f_add, bl, e1, e2]
    obtain ⟨n', hn'⟩ : ∃ q, n = (q + 1) + min zs.length 6 := ⟨n - min zs.length 6 - 1, by omega⟩
    have st := r5 n (n' + 1) (by omega) (f7_L0 real (AC n) n m)
    rw [← hn'] at st
    have e0 : ((0 : Nat) : Int) = 0 := rfl
    rw [e0] at st
    refine st.trans ?_
    rw [f7_L1.eq_2]
    obtain ⟨a, w, a1, a2, a3, ab, ao, rfl, a4⟩ := row_at (hf.keep r2) hz
    have fin : f7_L0 real (AC n) n m v (.int .i64 (N : Int)) v' (.int .i64 ((i + 1 : Nat) : Int)) H4 = some (vo', H') := f1 n m (by omega) (by omega)
    by_cases h6 : zs.length ≤ 6
    · simp only [ruA, ruB, ruC, ruE, ruD, lenStr, Int.reduceBEq, Int.reduceBNe, a1, a2, a3.lenS, idx_ge (show zs.length ≤ min zs.length 6 by omega), c5, c6, d1, idx_up (show i < 9223372036854775807 by omega)]
      exact fin
    · have k6 : decide (((min zs.length 6 : Nat) : Int) < 6) = false := decide_eq_false (by omega)
      simp only [ruA, ruB, ruC, ruE, ruD, lenStr, Int.reduceBEq, Int.reduceBNe, a1, a2, a3.lenS, idx_lt (show min zs.length 6 < zs.length by omega), k6, c5, c6, d1, idx_up (show i < 9223372036854775807 by omega)]
      exact fin
/-- Files by numbers. -/
theorem net_ok : ∃ H' w, Cl 7 [v] H0 w H' ∧ Keep (all H0) H0 H' ∧ Sli (all H') H' (netN l) w := by
  obtain ⟨H', w, a, b, c⟩ := net_L0 hf (N := min l.length 20) rfl (min l.length 20) 0 H0 (fun _ => False) nilS (by omega) (Keep.refl _ _) (by rw [List.take_zero]; exact AccR.nil) (fun b hb => by simp [blkOf] at hb) (fun b hb => hb.elim)
  have a := a.loop
  refine ⟨H', w, ?_, b, c⟩
  have m20 : minV (.int .i64 (l.length : Int)) (.int .i64 20) H0 = some (.int .i64 ((min l.length 20 : Nat) : Int), H0) := minV_nat (b := 20)
  refine Ev.enter (fun n => f7_eq rfl n _ _) ?_
  simp only [f7, ruA, ruB, ruC, ruE, ruD, lenStr, Int.reduceBEq, Int.reduceBNe, hf.lenS, m20]
  exact a
end
end Go.Eng
