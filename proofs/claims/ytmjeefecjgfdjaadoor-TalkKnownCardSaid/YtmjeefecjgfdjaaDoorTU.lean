/- TalkKnown. -/
import Derived.Test.YtmjeefecjgfdjaaDoorTQ
import Derived.Test.YtmjeefecjgfdjaaDoorTA2
set_option linter.unusedVariables false
set_option linter.unusedSimpArgs false
namespace Go.Eng
open Go Go.Proofs

/-- What stands all the time: many noughts, eight texts. -/
structure Kn (H : Heap) (x1 x2 : Value) (z : List Nat) (ls : List (List UInt8)) : Prop where
  long : By H z x1
  zl : z.length = 262145
  zb : ∀ c ∈ z, c < 256
  paths : Sl (all H) H 1 x2 8 (ls.map fun l => .string (bs l))
  pl : ls.length = 8
  pm : ∀ l ∈ ls, l.length ≤ 33
theorem Kn.up {H H' : Heap} {x1 x2 : Value} {z : List Nat} {ls : List (List UInt8)} (h : Kn H x1 x2 z ls) (k : Keep (all H) H H') : Kn H' x1 x2 z ls :=
  ⟨h.long.up k, h.zl, h.zb, h.paths.up k, h.pl, h.pm⟩
def ns4 : List Int := [0, 1, 8192, 8193]
theorem ns4_nat {j : Nat} {a : Int} (h : ns4[j]? = some a) : ∃ n : Nat, a = (n : Int) ∧ n ≤ 8193 := by
  match j, h with
  | 0, h => exact ⟨0, by simpa [ns4] using h.symm, by omega⟩
  | 1, h => exact ⟨1, by simpa [ns4] using h.symm, by omega⟩
  | 2, h => exact ⟨8192, by simpa [ns4] using h.symm, by omega⟩
  | 3, h => exact ⟨8193, by simpa [ns4] using h.symm, by omega⟩
  | j + 4, h => simp [ns4] at h
theorem lit4 {H : Heap} : bldS 1 4 [.int .i64 0] [(0, 1, .int .i64 0), (1, 1, .int .i64 1), (2, 1, .int .i64 8192), (3, 1, .int .i64 8193)] H = some (.slice (some ⟨H.n, 0, none⟩) ns4.length ns4.length, H.push ⟨I ns4, 1, true⟩) := by
  simp [bldS, rep, fillC, Value.cells, splice, newS, I, ns4]
  exact ⟨rfl, rfl, rfl, rfl⟩
section
variable {x1 x2 : Value} {z : List Nat} {ls : List (List UInt8)}
theorem known_L2 {H0 : Heap} (hk : Kn H0 x1 x2 z ls) {x26 : Value} (h26 : Sl (all H0) H0 1 x26 4 (I ns4)) {k : Int} {i : Nat} (hi : i < 8)
    (hnext : ∀ G, Keep (all H0) H0 G → ∃ H', Ev3 (fun n m j => f9_L1 real (AC n) n (f9_L0 real (AC n) n m) j x1 x2 (.int .i64 k) (.int .i64 ((i + 1 : Nat) : Int)) G) (.bool true, H')) :
    ∀ (q j : Nat) (G : Heap), j + q = 4 → Keep (all H0) H0 G → ∃ H', Ev4 (fun n m a b => f9_L2 real (AC n) n (f9_L0 real (AC n) n m) (f9_L1 real (AC n) n (f9_L0 real (AC n) n m) a) b x1 x2 (.int .i64 k) (.int .i64 (i : Int)) x26 (.int .i64 ((4 : Nat) : Int)) (.int .i64 (j : Int)) G) (.bool true, H') := by
  have hmm : mostBytes = 140737488355328 := rfl
  intro q
  induction q with
  | zero =>
    intro j G hj hG
    obtain ⟨H', h⟩ := hnext G hG
    refine ⟨H', ?_⟩
    refine Ev4.step (fun n m a b => f9_L2.eq_2 _ _ _ _ _ _ _ _ _ _ _ _ _ _) ?_
    simp only [real_b, real_i, real_c, chk_t, bnd_some, bnd_up, iff_t, iff_f, gd_t, gd_f, wd_b, wd_u, pick_t, pick_f, b_lss, b_leq, b_gtr, b_geq, b_eql, b_neq, b_seql, b_sneq, b_add, b_sub, u_not, nilC_ptr, fAddr_ptr, Nat.zero_add, extr0, extr1, extr2, lenStr, decide_true, decide_false, bt_tt, bt_tf, bt_ft, bt_ff, bt_bne, Bool.not_true, Bool.not_false, Int.reduceBEq, Int.reduceBNe, extr30, extr31, idx_ge (show 4 ≤ j by omega), idx_up (show i < 9223372036854775807 by omega)]
    exact Ev4.of h
  | succ q ih =>
    intro j G hj hG
    have K := hk.up hG
    obtain ⟨a, ha, _⟩ := drop_at (l := ns4) (i := j) (by simp [ns4]; omega)
    obtain ⟨n, rfl, hn⟩ := ns4_nat ha
    obtain ⟨p, p1, p2⟩ := (h26.up hG).at1 (I_at ha)
    obtain ⟨l, hl, _⟩ := drop_at (l := ls) (i := i) (by rw [hk.pl]; exact hi)
    have hlb := hk.pm l (mem_at hl)
    obtain ⟨p', p1', p2'⟩ := K.paths.at1 (i := i) (x := .string (bs l)) (by rw [List.getElem?_map, hl]; rfl)
    obtain ⟨w, w1, w2⟩ := By.upto K.long (i := n) (by rw [hk.zl]; omega)
    have hwb : ∀ c ∈ z.take n, c < 256 := fun c hc => hk.zb c (List.mem_of_mem_take hc)
    have hwl : (z.take n).length ≤ 8193 := by simp; omega
    have hone := w2.oneC
    have k1 : Keep (all G) G (G.push ⟨[.int .i64 k, .string (bs l), w], 1, true⟩) := push_keep
    have b1 : Box (all (G.push ⟨[.int .i64 k, .string (bs l), w], 1, true⟩)) (G.push ⟨[.int .i64 k, .string (bs l), w], 1, true⟩) G.n [.int .i64 k, .string (bs l), w] := push_boxA
    have s1 : stV 3 (ptr G.n 0) (rqV k l w) (G.push ⟨[.int .i64 0, .string (bs []), nilS], 1, true⟩) = some (undef, G.push ⟨[.int .i64 k, .string (bs l), w], 1, true⟩) := stA_push (ds := [.int .i64 k, .string (bs l), w]) rfl rfl (all3 hone.1)
    have p1k : iAddrS 1 x2 (.int .i64 (i : Int)) = some p' := p1'
    have p2k : ldC p' (G.push ⟨[.int .i64 k, .string (bs l), w], 1, true⟩) = some (.string (bs l), G.push ⟨[.int .i64 k, .string (bs l), w], 1, true⟩) := by
      obtain ⟨p'', q1, q2⟩ := (K.up k1).paths.at1 (i := i) (x := .string (bs l)) (by rw [List.getElem?_map, hl]; rfl)
      rw [p1k] at q1
      obtain rfl := Option.some.inj q1
      exact q2
    generalize hG1 : G.push ⟨[.int .i64 k, .string (bs l), w], 1, true⟩ = G1 at *
    generalize he : IntKind.i64.wrap (k * 111) = e
    have k2 : Keep (all G1) G1 (G1.push ⟨[.int .i64 k, .int .i64 e, .int .i64 k, .string (bs l), w], 1, true⟩) := push_keep
    have b2 : Box (all (G1.push ⟨[.int .i64 k, .int .i64 e, .int .i64 k, .string (bs l), w], 1, true⟩)) (G1.push ⟨[.int .i64 k, .int .i64 e, .int .i64 k, .string (bs l), w], 1, true⟩) G1.n [.int .i64 k, .int .i64 e, .int .i64 k, .string (bs l), w] := push_boxA
    have s2 : stV 5 (ptr G1.n 0) (rpV k e k l w) (G1.push ⟨[.int .i64 0, .int .i64 0, .int .i64 0, .string (bs []), nilS], 1, true⟩) = some (undef, G1.push ⟨[.int .i64 k, .int .i64 e, .int .i64 k, .string (bs l), w], 1, true⟩) := stA_push (ds := [.int .i64 k, .int .i64 e, .int .i64 k, .string (bs l), w]) rfl rfl (all5 hone.1)
    generalize hG2 : G1.push ⟨[.int .i64 k, .int .i64 e, .int .i64 k, .string (bs l), w], 1, true⟩ = G2 at *
    have b1' := (b1.keep k2).mono (upA k2)
    have wG := (w2.up k1).up k2
    obtain ⟨G3, a1, a2⟩ := asks_law (k := k) (l := l) wG hwb (by omega) (by omega)
    obtain ⟨G4, c1, c2⟩ := answers_law (k := k) (e := e) (a := k) (l := l) (wG.up a2) hwb (by omega)
    obtain ⟨G5, d1, d2⟩ := back_law (k := k) (l := l) (k' := k) (e' := e) (a' := k) (l' := l) ((wG.up a2).up c2) hwb (by omega) ((wG.up a2).up c2) hwb
    obtain ⟨H', h⟩ := ih (j + 1) G5 (by omega) (hG.tr (k1.tr (k2.tr (a2.tr (c2.tr d2)))))
    refine ⟨H', ?_⟩
    refine Ev4.step (fun n m a b => f9_L2.eq_2 _ _ _ _ _ _ _ _ _ _ _ _ _ _) ?_
    simp only [real_b, real_i, real_c, chk_t, bnd_some, bnd_up, iff_t, iff_f, gd_t, gd_f, wd_b, wd_u, pick_t, pick_f, b_lss, b_leq, b_gtr, b_geq, b_eql, b_neq, b_seql, b_sneq, b_add, b_sub, u_not, nilC_ptr, fAddr_ptr, Nat.zero_add, extr0, extr1, extr2, lenStr, decide_true, decide_false, bt_tt, bt_tf, bt_ft, bt_ff, bt_bne, Bool.not_true, Bool.not_false, Int.reduceBEq, Int.reduceBNe, extr30, extr31, idx_lt (show j < 4 by omega), p1, p2, p1', p2', w1, bld3q hone.2, new3z, s1, hG1, b_mul, he, p2k, bld5q hone.2, new5z, s2, hG2, b1'.all (n := 3) rfl]
    refine Ev4.bnd a1 ?_
    simp only [real_b, real_i, real_c, chk_t, bnd_some, bnd_up, iff_t, iff_f, gd_t, gd_f, wd_b, wd_u, pick_t, pick_f, b_lss, b_leq, b_gtr, b_geq, b_eql, b_neq, b_seql, b_sneq, b_add, b_sub, u_not, nilC_ptr, fAddr_ptr, Nat.zero_add, extr0, extr1, extr2, lenStr, decide_true, decide_false, bt_tt, bt_tf, bt_ft, bt_ff, bt_bne, Bool.not_true, Bool.not_false, Int.reduceBEq, Int.reduceBNe, extr30, extr31, (b2.keep a2).all (n := 5) rfl]
    refine Ev4.bnd c1 ?_
    simp only [real_b, real_i, real_c, chk_t, bnd_some, bnd_up, iff_t, iff_f, gd_t, gd_f, wd_b, wd_u, pick_t, pick_f, b_lss, b_leq, b_gtr, b_geq, b_eql, b_neq, b_seql, b_sneq, b_add, b_sub, u_not, nilC_ptr, fAddr_ptr, Nat.zero_add, extr0, extr1, extr2, lenStr, decide_true, decide_false, bt_tt, bt_tf, bt_ft, bt_ff, bt_bne, Bool.not_true, Bool.not_false, Int.reduceBEq, Int.reduceBNe, extr30, extr31, ((b1'.keep a2).mono (upA a2)).keep c2 |>.all (n := 3) rfl, ((b2.keep a2).mono (upA a2)).keep c2 |>.all (n := 5) rfl]
    refine Ev4.bnd d1 ?_
    simp only [real_b, real_i, real_c, chk_t, bnd_some, bnd_up, iff_t, iff_f, gd_t, gd_f, wd_b, wd_u, pick_t, pick_f, b_lss, b_leq, b_gtr, b_geq, b_eql, b_neq, b_seql, b_sneq, b_add, b_sub, u_not, nilC_ptr, fAddr_ptr, Nat.zero_add, extr0, extr1, extr2, lenStr, decide_true, decide_false, bt_tt, bt_tf, bt_ft, bt_ff, bt_bne, Bool.not_true, Bool.not_false, Int.reduceBEq, Int.reduceBNe, extr30, extr31, idx_up (show j < 9223372036854775807 by omega)]
    exact h
theorem known_L1 {H0 : Heap} (hk : Kn H0 x1 x2 z ls) {k : Int} (hk1 : -2 ≤ k ∧ k ≤ 10)
    (hnext : ∀ G, Keep (all H0) H0 G → ∃ H', Ev (fun n m => f9_L0 real (AC n) n m x1 x2 (.int .i64 (k + 1)) G) (.bool true, H')) :
    ∀ (q i : Nat) (G : Heap), i + q = 8 → Keep (all H0) H0 G → ∃ H', Ev3 (fun n m a => f9_L1 real (AC n) n (f9_L0 real (AC n) n m) a x1 x2 (.int .i64 k) (.int .i64 (i : Int)) G) (.bool true, H') := by
  intro q
  induction q with
  | zero =>
    intro i G hi hG
    obtain ⟨H', h⟩ := hnext G hG
    have e1 : IntKind.i64.wrap (k + 1) = k + 1 := wrap_i64 (by omega) (by omega)
    refine ⟨H', ?_⟩
    refine Ev3.step (fun n m a => f9_L1.eq_2 _ _ _ _ _ _ _ _ _ _) ?_
    simp only [real_b, real_i, real_c, chk_t, bnd_some, bnd_up, iff_t, iff_f, gd_t, gd_f, wd_b, wd_u, pick_t, pick_f, b_lss, b_leq, b_gtr, b_geq, b_eql, b_neq, b_seql, b_sneq, b_add, b_sub, u_not, nilC_ptr, fAddr_ptr, Nat.zero_add, extr0, extr1, extr2, lenStr, decide_true, decide_false, bt_tt, bt_tf, bt_ft, bt_ff, bt_bne, Bool.not_true, Bool.not_false, Int.reduceBEq, Int.reduceBNe, extr30, extr31, (hk.up hG).paths.lenS, idx_ge (show 8 ≤ i by omega), e1]
    exact Ev3.of h
  | succ q ih =>
    intro i G hi hG
    have k1 : Keep (all G) G (G.push ⟨I ns4, 1, true⟩) := push_keep
    have h26 : Sl (all (G.push ⟨I ns4, 1, true⟩)) (G.push ⟨I ns4, 1, true⟩) 1 (.slice (some ⟨G.n, 0, none⟩) ns4.length ns4.length) 4 (I ns4) := push_SlI (d := ns4) (by simp [all, push_n])
    obtain ⟨H', h⟩ := known_L2 ((hk.up hG).up k1) h26 (i := i) (k := k) (by omega) (fun G' hG' => ih (i + 1) G' (by omega) (hG.tr (k1.tr hG'))) 4 0 _ (by omega) (Keep.refl _ _)
    refine ⟨H', ?_⟩
    refine Ev3.step (fun n m a => f9_L1.eq_2 _ _ _ _ _ _ _ _ _ _) ?_
    simp only [real_b, real_i, real_c, chk_t, bnd_some, bnd_up, iff_t, iff_f, gd_t, gd_f, wd_b, wd_u, pick_t, pick_f, b_lss, b_leq, b_gtr, b_geq, b_eql, b_neq, b_seql, b_sneq, b_add, b_sub, u_not, nilC_ptr, fAddr_ptr, Nat.zero_add, extr0, extr1, extr2, lenStr, decide_true, decide_false, bt_tt, bt_tf, bt_ft, bt_ff, bt_bne, Bool.not_true, Bool.not_false, Int.reduceBEq, Int.reduceBNe, extr30, extr31, (hk.up hG).paths.lenS, idx_lt (show i < 8 by omega), lit4, h26.lenS]
    exact Ev4.close h
end
end Go.Eng
