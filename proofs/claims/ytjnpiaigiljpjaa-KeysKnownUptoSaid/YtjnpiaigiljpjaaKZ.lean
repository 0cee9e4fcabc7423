/- KeysKinds: the law. -/
import Derived.Test.YtjnpiaigiljpjaaKY
set_option linter.unusedVariables false
set_option linter.unusedSimpArgs false
namespace Go.Eng
open Go Go.Proofs

theorem sameBlk_refl {H : Heap} {b : Option Nat} : sameBlk H H b = true := sameBlk_of fun c _ => rfl
section
variable {R : Nat → Prop} {H : Heap} {ks : List (List Nat)} {v : Value}
theorem kinds_inner (hK : Kst R H ks v) (hV : ∀ k ∈ ks, VK k) (hL : ∀ k ∈ ks, k.length ≤ 65536) (hn : ks.length < 1000) {i : Nat} (hi : i < ks.length) (hk : Ev (fun n m => f8_L1 real (AC n) n m v (.int .i64 ((i + 1 : Nat) : Int)) H) (.bool true, H)) :
    ∀ (k j : Nat), j + k = ks.length → Ev3 (fun n m q => f8_L2 real (AC n) n (f8_L1 real (AC n) n m) q v (.int .i64 (i : Int)) (.int .i64 (j : Int)) H) (.bool true, H) := by
  intro k
  induction k with
  | zero =>
    intro j hj
    refine Ev3.step (fun n m q => f8_L2.eq_2 _ _ _ _ _ _ _ _ _) ?_
    simp only [real_b, real_i, real_c, chk_t, bnd_some, bnd_up, iff_t, iff_f, gd_t, gd_f, wd_b, wd_u, pick_t, pick_f, b_lss, b_leq, b_gtr, b_geq, b_eql, b_neq, b_seql, b_sneq, b_add, b_sub, u_not, nilC_ptr, fAddr_ptr, Nat.zero_add, extr0, extr1, extr2, lenStr, decide_true, decide_false, bt_tt, bt_tf, bt_ft, bt_ff, bt_bne, Bool.not_true, Bool.not_false, Int.reduceBEq, Int.reduceBNe, hK.len, idx_ge (show ks.length ≤ j by omega), idx_up (show i < 9223372036854775807 by omega)]
    exact Ev3.of hk
  | succ k ih =>
    intro j hj
    obtain ⟨x, hx, _⟩ := drop_at hi
    obtain ⟨y, hy, _⟩ := drop_at (l := ks) (i := j) (by omega)
    obtain ⟨p, w, p1, p2, p3⟩ := hK.at hx
    obtain ⟨q, u, q1, q2, q3⟩ := hK.at hy
    have vx := hV x (mem_at hx)
    have vy := hV y (mem_at hy)
    have lx := hL x (mem_at hx)
    have hb := begins_ok p3 q3 (by omega)
    rw [vx.begins vy] at hb
    have hpos : (kindOfKey x < 1) = False := by have := vx.pos; simp; omega
    refine Ev3.step (fun n m q => f8_L2.eq_2 _ _ _ _ _ _ _ _ _) ?_
    simp only [real_b, real_i, real_c, chk_t, bnd_some, bnd_up, iff_t, iff_f, gd_t, gd_f, wd_b, wd_u, pick_t, pick_f, b_lss, b_leq, b_gtr, b_geq, b_eql, b_neq, b_seql, b_sneq, b_add, b_sub, u_not, nilC_ptr, fAddr_ptr, Nat.zero_add, extr0, extr1, extr2, lenStr, decide_true, decide_false, bt_tt, bt_tf, bt_ft, bt_ff, bt_bne, Bool.not_true, Bool.not_false, Int.reduceBEq, Int.reduceBNe, hK.len, idx_lt (show j < ks.length by omega), p1, p2, q1, q2]
    refine Ev3.callC hb ?_
    simp only [real_b, real_i, real_c, chk_t, bnd_some, bnd_up, iff_t, iff_f, gd_t, gd_f, wd_b, wd_u, pick_t, pick_f, b_lss, b_leq, b_gtr, b_geq, b_eql, b_neq, b_seql, b_sneq, b_add, b_sub, u_not, nilC_ptr, fAddr_ptr, Nat.zero_add, extr0, extr1, extr2, lenStr, decide_true, decide_false, bt_tt, bt_tf, bt_ft, bt_ff, bt_bne, Bool.not_true, Bool.not_false, Int.reduceBEq, Int.reduceBNe, Bool.or_true, Bool.false_or, Bool.or_false, Bool.and_true, p1, p2, q1, q2]
    refine Ev3.callC (kind_ok p3 vx.byte) ?_
    simp only [real_b, real_i, real_c, chk_t, bnd_some, bnd_up, iff_t, iff_f, gd_t, gd_f, wd_b, wd_u, pick_t, pick_f, b_lss, b_leq, b_gtr, b_geq, b_eql, b_neq, b_seql, b_sneq, b_add, b_sub, u_not, nilC_ptr, fAddr_ptr, Nat.zero_add, extr0, extr1, extr2, lenStr, decide_true, decide_false, bt_tt, bt_tf, bt_ft, bt_ff, bt_bne, Bool.not_true, Bool.not_false, Int.reduceBEq, Int.reduceBNe, Bool.or_true, Bool.false_or, Bool.or_false, Bool.and_true, p1, p2, q1, q2, sameBlk_refl]
    refine Ev3.callC (kind_ok q3 vy.byte) ?_
    by_cases hkk : kindOfKey x = kindOfKey y
    · simp only [real_b, real_i, real_c, chk_t, bnd_some, bnd_up, iff_t, iff_f, gd_t, gd_f, wd_b, wd_u, pick_t, pick_f, b_lss, b_leq, b_gtr, b_geq, b_eql, b_neq, b_seql, b_sneq, b_add, b_sub, u_not, nilC_ptr, fAddr_ptr, Nat.zero_add, extr0, extr1, extr2, lenStr, decide_true, decide_false, bt_tt, bt_tf, bt_ft, bt_ff, bt_bne, Bool.not_true, Bool.not_false, Int.reduceBEq, Int.reduceBNe, Bool.or_true, Bool.false_or, Bool.or_false, Bool.and_true, Bool.true_or, p1, p2, q1, q2, show (kindOfKey x != kindOfKey y) = false by simp [hkk]]
      refine Ev3.callC (kind_ok p3 vx.byte) ?_
      simp only [real_b, real_i, real_c, chk_t, bnd_some, bnd_up, iff_t, iff_f, gd_t, gd_f, wd_b, wd_u, pick_t, pick_f, b_lss, b_leq, b_gtr, b_geq, b_eql, b_neq, b_seql, b_sneq, b_add, b_sub, u_not, nilC_ptr, fAddr_ptr, Nat.zero_add, extr0, extr1, extr2, lenStr, decide_true, decide_false, bt_tt, bt_tf, bt_ft, bt_ff, bt_bne, Bool.not_true, Bool.not_false, Int.reduceBEq, Int.reduceBNe, Bool.or_true, Bool.false_or, Bool.or_false, Bool.and_true, hpos, idx_up (show j < 9223372036854775807 by omega)]
      exact ih (j + 1) (by omega)
    · simp only [real_b, real_i, real_c, chk_t, bnd_some, bnd_up, iff_t, iff_f, gd_t, gd_f, wd_b, wd_u, pick_t, pick_f, b_lss, b_leq, b_gtr, b_geq, b_eql, b_neq, b_seql, b_sneq, b_add, b_sub, u_not, nilC_ptr, fAddr_ptr, Nat.zero_add, extr0, extr1, extr2, lenStr, decide_true, decide_false, bt_tt, bt_tf, bt_ft, bt_ff, bt_bne, Bool.not_true, Bool.not_false, Int.reduceBEq, Int.reduceBNe, Bool.or_true, Bool.false_or, Bool.or_false, Bool.and_true, Bool.true_or, p1, p2, q1, q2, show (kindOfKey x != kindOfKey y) = true by simpa using hkk]
      refine Ev3.callC (eq_ok p3 q3 (by omega)) ?_
      have hne : decide (x = y) = false := by simp only [decide_eq_false_iff_not]; intro h; exact hkk (by rw [h])
      simp only [real_b, real_i, real_c, chk_t, bnd_some, bnd_up, iff_t, iff_f, gd_t, gd_f, wd_b, wd_u, pick_t, pick_f, b_lss, b_leq, b_gtr, b_geq, b_eql, b_neq, b_seql, b_sneq, b_add, b_sub, u_not, nilC_ptr, fAddr_ptr, Nat.zero_add, extr0, extr1, extr2, lenStr, decide_true, decide_false, bt_tt, bt_tf, bt_ft, bt_ff, bt_bne, Bool.not_true, Bool.not_false, Int.reduceBEq, Int.reduceBNe, Bool.or_true, Bool.false_or, Bool.or_false, Bool.and_true, hne, p1, p2]
      refine Ev3.callC (kind_ok p3 vx.byte) ?_
      simp only [real_b, real_i, real_c, chk_t, bnd_some, bnd_up, iff_t, iff_f, gd_t, gd_f, wd_b, wd_u, pick_t, pick_f, b_lss, b_leq, b_gtr, b_geq, b_eql, b_neq, b_seql, b_sneq, b_add, b_sub, u_not, nilC_ptr, fAddr_ptr, Nat.zero_add, extr0, extr1, extr2, lenStr, decide_true, decide_false, bt_tt, bt_tf, bt_ft, bt_ff, bt_bne, Bool.not_true, Bool.not_false, Int.reduceBEq, Int.reduceBNe, Bool.or_true, Bool.false_or, Bool.or_false, Bool.and_true, hpos, idx_up (show j < 9223372036854775807 by omega)]
      exact ih (j + 1) (by omega)
theorem kinds_outer (hK : Kst R H ks v) (hV : ∀ k ∈ ks, VK k) (hL : ∀ k ∈ ks, k.length ≤ 65536) (hn : ks.length < 1000) :
    ∀ (k i : Nat), i + k = ks.length → Ev (fun n m => f8_L1 real (AC n) n m v (.int .i64 (i : Int)) H) (.bool true, H) := by
  intro k
  induction k with
  | zero =>
    intro i hi
    refine Ev.step (fun n m => f8_L1.eq_2 _ _ _ _ _ _ _) ?_
    simp only [real_b, real_i, real_c, chk_t, bnd_some, bnd_up, iff_t, iff_f, gd_t, gd_f, wd_b, wd_u, pick_t, pick_f, b_lss, b_leq, b_gtr, b_geq, b_eql, b_neq, b_seql, b_sneq, b_add, b_sub, u_not, nilC_ptr, fAddr_ptr, Nat.zero_add, extr0, extr1, extr2, lenStr, decide_true, decide_false, bt_tt, bt_tf, bt_ft, bt_ff, bt_bne, Bool.not_true, Bool.not_false, Int.reduceBEq, Int.reduceBNe, hK.len, idx_ge (show ks.length ≤ i by omega)]
    refine Ev.callC (awake_ok _) ?_
    exact Ev.pure _
  | succ k ih =>
    intro i hi
    have h := (kinds_inner hK hV hL hn (show i < ks.length by omega) (ih (i + 1) (by omega)) ks.length 0 (by omega)).close
    refine Ev.step (fun n m => f8_L1.eq_2 _ _ _ _ _ _ _) ?_
    simp only [real_b, real_i, real_c, chk_t, bnd_some, bnd_up, iff_t, iff_f, gd_t, gd_f, wd_b, wd_u, pick_t, pick_f, b_lss, b_leq, b_gtr, b_geq, b_eql, b_neq, b_seql, b_sneq, b_add, b_sub, u_not, nilC_ptr, fAddr_ptr, Nat.zero_add, extr0, extr1, extr2, lenStr, decide_true, decide_false, bt_tt, bt_tf, bt_ft, bt_ff, bt_bne, Bool.not_true, Bool.not_false, Int.reduceBEq, Int.reduceBNe, hK.len, idx_lt (show i < ks.length by omega)]
    exact h
end

/-- What is carried: the keys so far. -/
structure Keys (R : Nat → Prop) (H : Heap) (ks : List (List Nat)) (v : Value) (n : Nat) : Prop where
  k : Kst R H ks v
  v : ∀ k ∈ ks, VK k
  l : ∀ k ∈ ks, k.length ≤ 65536
  n : ks.length ≤ n
theorem Keys.plus {R : Nat → Prop} {H H' : Heap} {ks : List (List Nat)} {v : Value} {n : Nat} (h : Keys R H ks v n) (hR : Rb R H) (k : Keep (all H) H H') : Keys (Eng.plus R H H') H' ks v n := ⟨h.k.plus hR k, h.v, h.l, h.n⟩
/-- The array of two grammars. -/
structure Two (R : Nat → Prop) (H : Heap) (b : Nat) (g0 g1 : Gr) (c0 c1 : List Value) : Prop where
  box : Box R H b (c0 ++ c1)
  r0 : Rp.rep R H g0 c0
  r1 : Rp.rep R H g1 c1
theorem Two.plus {R : Nat → Prop} {H H' : Heap} {b : Nat} {g0 g1 : Gr} {c0 c1 : List Value} (h : Two R H b g0 g1 c0 c1) (k : Keep R H H') : Two (Eng.plus R H H') H' b g0 g1 c0 c1 := ⟨(h.box.keep k).mono plus_le, Rp.mono (Rp.keep h.r0 k) plus_le, Rp.mono (Rp.keep h.r1 k) plus_le⟩
theorem Two.keep {R : Nat → Prop} {H H' : Heap} {b : Nat} {g0 g1 : Gr} {c0 c1 : List Value} (h : Two R H b g0 g1 c0 c1) (k : Keep R H H') : Two R H' b g0 g1 c0 c1 := ⟨h.box.keep k, Rp.keep h.r0 k, Rp.keep h.r1 k⟩
theorem gr_len {R : Nat → Prop} {H : Heap} {g : Gr} {c : List Value} (h : Rp.rep R H g c) : c.length = 5 := Rp.len h
theorem Two.ld0 {R : Nat → Prop} {H : Heap} {b : Nat} {g0 g1 : Gr} {c0 c1 : List Value} (h : Two R H b g0 g1 c0 c1) : iAddrA 2 5 (ptr b 0) (.int .i64 ((0 : Nat) : Int)) = some (ptr b 0) ∧ ldA 5 (ptr b 0) H = some (.agg c0.toArray, H) := by
  have l0 := gr_len h.r0
  have l1 := gr_len h.r1
  refine ⟨by simp [iAddrA], ?_⟩
  rw [h.box.ldA (by simp; omega)]
  have : cut (c0 ++ c1) 0 5 = c0 := by simp [cut, ← l0]
  rw [this]
theorem Two.ld1 {R : Nat → Prop} {H : Heap} {b : Nat} {g0 g1 : Gr} {c0 c1 : List Value} (h : Two R H b g0 g1 c0 c1) : iAddrA 2 5 (ptr b 0) (.int .i64 ((1 : Nat) : Int)) = some (ptr b 5) ∧ ldA 5 (ptr b 5) H = some (.agg c1.toArray, H) := by
  have l0 := gr_len h.r0
  have l1 := gr_len h.r1
  refine ⟨by simp [iAddrA], ?_⟩
  rw [h.box.ldA (by simp; omega)]
  have : cut (c0 ++ c1) 5 5 = c1 := by
    simp only [cut, ← l0, List.drop_left]
    rw [l0, ← l1, List.take_length]
  rw [this]

/-- A call that answers a key, and what becomes of the list. -/
theorem key_step {R : Nat → Prop} {H H1 : Heap} {ks : List (List Nat)} {v w : Value} {n : Nat} {e : Int} {key : List Nat} (hK : Keys R H ks v n) (hR : Rb R H) (k1 : Keep (all H) H H1) (hA : Acc (all H) H1 1 w (endL e key).length (B (endL e key))) (hv : endE e key = 0 → VK key) (hn : n < 900) :
    ∃ ks' v' H2 R', (∀ b, R b → R' b) ∧ Keep R H H2 ∧ Rb R' H2 ∧ Keys R' H2 ks' v' (n + 1) ∧ (∀ {b : Nat} {g0 g1 : Gr} {c0 c1 : List Value}, Two R H b g0 g1 c0 c1 → Two R' H2 b g0 g1 c0 c1) ∧ (∀ {xs : List ByteArray} {u : Value}, Sli R H xs u → Sli R' H2 xs u) ∧
      (endE e key = 0 → bldS 1 1 [nilS] [(0, 1, w)] H1 = some (.slice (some ⟨H1.n, 0, none⟩) 1 1, H1.push ⟨[w], 1, true⟩) ∧ app 1 24 v (.slice (some ⟨H1.n, 0, none⟩) 1 1) (H1.push ⟨[w], 1, true⟩) = some (v', H2)) ∧ (endE e key ≠ 0 → v' = v ∧ H2 = H1) := by
  have hK1 := hK.plus hR k1
  have hR1 : Rb (plus R H H1) H1 := hR.plus k1.1
  have kR := k1.of_all hR
  by_cases h0 : endE e key = 0
  · obtain ⟨he, hl⟩ := endE_zero h0
    have hlen := endL_len e key
    rw [hl] at hA hlen
    obtain ⟨v', H2, a1, a2, a3⟩ := hK1.k.add hR1 hA.plus (by have := hK.n; omega)
    refine ⟨ks ++ [key], v', H2, plus R H H1, plus_le, kR.trans (a3.mono plus_le), hR1.mono a3.1, ⟨a2, fun k hk => ?_, fun k hk => ?_, by simp; exact hK.n⟩, fun h => (h.plus kR).keep a3, fun h => (h.plus kR).keep a3, fun _ => ⟨litV hA.oneC.1 hA.oneC.2, a1⟩, fun h => absurd h0 h⟩
    · rcases List.mem_append.1 hk with h | h
      · exact hK.v k h
      · simp only [List.mem_singleton] at h; subst h; exact hv h0
    · rcases List.mem_append.1 hk with h | h
      · exact hK.l k h
      · simp only [List.mem_singleton] at h; subst h; exact hlen
  · exact ⟨ks, v, H1, plus R H H1, plus_le, kR, hR1, ⟨hK1.k, hK1.v, hK1.l, by have := hK.n; omega⟩, fun h => h.plus kR, fun h => h.plus kR, fun h => absurd h h0, fun _ => ⟨rfl, rfl⟩⟩

theorem rep_all {R : Nat → Prop} {H : Heap} {g : Gr} {c : List Value} (hR : Rb R H) (h : Rp.rep R H g c) : Rp.rep (all H) H g c := Rp.mono h hR
/-- Both keys of one grammar. -/
theorem kinds_pair {R : Nat → Prop} {H : Heap} {b : Nat} {g0 g1 : Gr} {c0 c1 : List Value} {v : Value} {ks : List (List Nat)} {n : Nat} (hR : Rb R H) (hT : Two R H b g0 g1 c0 c1) (hK : Keys R H ks v n) (hn : n < 800) {i o : Nat} {g : Gr} {c : List Value} (fg : Fits g) (hi : i < 2)
    (hg : ∀ {R : Nat → Prop} {H : Heap}, Two R H b g0 g1 c0 c1 → Rp.rep R H g c ∧ iAddrA 2 5 (ptr b 0) (.int .i64 (i : Int)) = some (ptr b o) ∧ ldA 5 (ptr b o) H = some (.agg c.toArray, H)) :
    ∃ ks' v' H' R', (∀ b, R b → R' b) ∧ Keep R H H' ∧ Rb R' H' ∧ Keys R' H' ks' v' (n + 2) ∧ Two R' H' b g0 g1 c0 c1 ∧ ∀ r, Ev (fun n m => f8_L0 real (AC n) n m (ptr b 0) v' (.int .i64 ((i + 1 : Nat) : Int)) H') r → Ev (fun n m => f8_L0 real (AC n) n m (ptr b 0) v (.int .i64 (i : Int)) H) r := by
  have va := fg.v
  have pa := fg.p
  obtain ⟨hg1, hg2, hg3⟩ := hg hT
  obtain ⟨w1, H1, p1, p2, p3⟩ := parser_ok (rep_all hR hg1) (by omega) fg.s.d
  obtain ⟨ks1, v1, H2, R1, mo1, kk1, rb1, K1, T1, S1, A1, B1⟩ := key_step (e := gE g) (key := pkey g) hK hR p3 p2 (fun h => .parser (endE_zero h).1) (by omega)
  have T1 := T1 hT
  obtain ⟨hj1, hj2, hj3⟩ := hg T1
  obtain ⟨w2, H3, q1, q2, q3⟩ := tables_ok (rep_all rb1 hj1) (by omega) fg.s.d
  obtain ⟨ks2, v2, H4, R2, mo2, kk2, rb2, K2, T2, S2, A2, B2⟩ := key_step (e := tE g) (key := tkey g) K1 rb1 q3 q2 (fun h => .tables (endE_zero h).1 pa) (by omega)
  refine ⟨ks2, v2, H4, R2, fun b h => mo2 b (mo1 b h), kk1.trans (kk2.mono mo1), rb2, K2, T2 T1, fun r hr => ?_⟩
  have hi2 : ((i : Int) < 2) = True := by simp; omega
  -- behind the first key
  have second : Ev (fun n m => f8_J2 real (AC n) n (f8_L0 real (AC n) n m) (ptr b 0) v1 (.int .i64 (i : Int)) H2) r := by
    simp only [f8_J2, real_b, real_i, real_c, chk_t, bnd_some, bnd_up, iff_t, iff_f, gd_t, gd_f, wd_b, wd_u, pick_t, pick_f, b_lss, b_leq, b_gtr, b_geq, b_eql, b_neq, b_seql, b_sneq, b_add, b_sub, u_not, nilC_ptr, fAddr_ptr, Nat.zero_add, extr0, extr1, extr2, lenStr, decide_true, decide_false, bt_tt, bt_tf, bt_ft, bt_ff, bt_bne, Bool.not_true, Bool.not_false, Int.reduceBEq, Int.reduceBNe, hj2, hj3]
    refine Ev.callC q1 ?_
    by_cases h0 : endE (tE g) (tkey g) = 0
    · obtain ⟨a1, a2⟩ := A2 h0
      simp only [real_b, real_i, real_c, chk_t, bnd_some, bnd_up, iff_t, iff_f, gd_t, gd_f, wd_b, wd_u, pick_t, pick_f, b_lss, b_leq, b_gtr, b_geq, b_eql, b_neq, b_seql, b_sneq, b_add, b_sub, u_not, nilC_ptr, fAddr_ptr, Nat.zero_add, extr0, extr1, extr2, lenStr, decide_true, decide_false, bt_tt, bt_tf, bt_ft, bt_ff, bt_bne, Bool.not_true, Bool.not_false, Int.reduceBEq, Int.reduceBNe, h0, show bldS 1 1 [.slice none 0 0] [(0, 1, w2)] H3 = _ from a1, a2, f8_J1, idx_up (show i < 9223372036854775807 by omega)]
      exact hr
    · obtain ⟨rfl, rfl⟩ := B2 h0
      simp only [real_b, real_i, real_c, chk_t, bnd_some, bnd_up, iff_t, iff_f, gd_t, gd_f, wd_b, wd_u, pick_t, pick_f, b_lss, b_leq, b_gtr, b_geq, b_eql, b_neq, b_seql, b_sneq, b_add, b_sub, u_not, nilC_ptr, fAddr_ptr, Nat.zero_add, extr0, extr1, extr2, lenStr, decide_true, decide_false, bt_tt, bt_tf, bt_ft, bt_ff, bt_bne, Bool.not_true, Bool.not_false, Int.reduceBEq, Int.reduceBNe, show (endE (tE g) (tkey g) == 0) = false by simpa using h0, f8_J1, idx_up (show i < 9223372036854775807 by omega)]
      exact hr
  refine Ev.step (fun n m => f8_L0.eq_2 _ _ _ _ _ _ _ _) ?_
  simp only [real_b, real_i, real_c, chk_t, bnd_some, bnd_up, iff_t, iff_f, gd_t, gd_f, wd_b, wd_u, pick_t, pick_f, b_lss, b_leq, b_gtr, b_geq, b_eql, b_neq, b_seql, b_sneq, b_add, b_sub, u_not, nilC_ptr, fAddr_ptr, Nat.zero_add, extr0, extr1, extr2, lenStr, decide_true, decide_false, bt_tt, bt_tf, bt_ft, bt_ff, bt_bne, Bool.not_true, Bool.not_false, Int.reduceBEq, Int.reduceBNe, hi2, hg2, hg3]
  refine Ev.callC p1 ?_
  by_cases h0 : endE (gE g) (pkey g) = 0
  · obtain ⟨a1, a2⟩ := A1 h0
    simp only [real_b, real_i, real_c, chk_t, bnd_some, bnd_up, iff_t, iff_f, gd_t, gd_f, wd_b, wd_u, pick_t, pick_f, b_lss, b_leq, b_gtr, b_geq, b_eql, b_neq, b_seql, b_sneq, b_add, b_sub, u_not, nilC_ptr, fAddr_ptr, Nat.zero_add, extr0, extr1, extr2, lenStr, decide_true, decide_false, bt_tt, bt_tf, bt_ft, bt_ff, bt_bne, Bool.not_true, Bool.not_false, Int.reduceBEq, Int.reduceBNe, h0, show bldS 1 1 [.slice none 0 0] [(0, 1, w1)] H1 = _ from a1, a2]
    exact second
  · obtain ⟨rfl, rfl⟩ := B1 h0
    simp only [real_b, real_i, real_c, chk_t, bnd_some, bnd_up, iff_t, iff_f, gd_t, gd_f, wd_b, wd_u, pick_t, pick_f, b_lss, b_leq, b_gtr, b_geq, b_eql, b_neq, b_seql, b_sneq, b_add, b_sub, u_not, nilC_ptr, fAddr_ptr, Nat.zero_add, extr0, extr1, extr2, lenStr, decide_true, decide_false, bt_tt, bt_tf, bt_ft, bt_ff, bt_bne, Bool.not_true, Bool.not_false, Int.reduceBEq, Int.reduceBNe, show (endE (gE g) (pkey g) == 0) = false by simpa using h0]
    exact second

theorem kinds_law {H : Heap} {v1 v2 : Value} {d : List Nat} {n1 : Nat} {xs : List ByteArray} {g0 g1 : Gr} {c0 c1 : List Value} (h1 : Sl (all H) H 1 v1 n1 (B d)) (hd : ∀ x ∈ d, x < 256) (ld : d.length ≤ 100000000000) (h2 : Sli (all H) H xs v2) (lx : vol xs ≤ 100000000000)
    (hg0 : Rp.rep (all H) H g0 c0) (hg1 : Rp.rep (all H) H g1 c1) (f0 : Fits g0) (f1 : Fits g1) : ∃ H', Cl 8 [v1, v2, .agg (c0 ++ c1).toArray] H (.bool true) H' ∧ Keep (all H) H H' := by
  have l0 := gr_len hg0
  have l1 := gr_len hg1
  have ho : (c0 ++ c1).all oneC = true := by rw [List.all_append, Rp.one hg0, Rp.one hg1]; rfl
  let H1 := H.push ⟨c0 ++ c1, 1, true⟩
  have k1 : Keep (all H) H H1 := push_keep
  have e1 : newV (Value.cells (.agg (c0 ++ c1).toArray)).toList H = some (ptr H.n 0, H1) := newV_box ho
  have T0 : Two (all H1) H1 H.n g0 g1 c0 c1 := ⟨push_boxA, Rp.mono (Rp.keep hg0 k1) (upA k1), Rp.mono (Rp.keep hg1 k1) (upA k1)⟩
  obtain ⟨wf, H2, a1, a2, a3⟩ := file_ok (h1.up k1) ld
  obtain ⟨ks1, l1', H3, R1, mo1, kk1, rb1, K1, T1, S1, A1, B1⟩ := key_step (R := all H1) (H := H1) (ks := []) (v := nilS) (n := 0) (e := 0) (key := fkey d) ⟨Kst.nil, by simp, by simp, by simp⟩ (Rb.all H1) a3 a2 (fun _ => .file hd ld) (by omega)
  have T1 := T1 T0
  have X1 := S1 (h2.up k1)
  obtain ⟨ws, H4, b1, b2, b3⟩ := scan_ok (X1.mono rb1) lx
  obtain ⟨ks2, l2', H5, R2, mo2, kk2, rb2, K2, T2, S2, A2, B2⟩ := key_step (e := 0) (key := skey xs) K1 rb1 b3 b2 (fun _ => .scan lx) (by omega)
  have T2 := T2 T1
  obtain ⟨ks3, l3', H6, R3, mo3, kk3, rb3, K3, T3, C3⟩ := kinds_pair rb2 T2 K2 (by omega) (i := 0) (o := 0) f0 (by omega) (fun h => ⟨h.r0, h.ld0⟩)
  obtain ⟨ks4, l4', H7, R4, mo4, kk4, rb4, K4, T4, C4⟩ := kinds_pair rb3 T3 K3 (by omega) (i := 1) (o := 5) f1 (by omega) (fun h => ⟨h.r1, h.ld1⟩)
  have hend : Ev (fun n m => f8_L0 real (AC n) n m (ptr H.n 0) l4' (.int .i64 ((1 + 1 : Nat) : Int)) H7) (.bool true, H7) := by
    refine Ev.step (fun n m => f8_L0.eq_2 _ _ _ _ _ _ _ _) ?_
    have h2 : (((1 + 1 : Nat) : Int) < 2) = False := by simp
    simp only [real_b, real_i, real_c, chk_t, bnd_some, bnd_up, iff_t, iff_f, gd_t, gd_f, wd_b, wd_u, pick_t, pick_f, b_lss, b_leq, b_gtr, b_geq, b_eql, b_neq, b_seql, b_sneq, b_add, b_sub, u_not, nilC_ptr, fAddr_ptr, Nat.zero_add, extr0, extr1, extr2, lenStr, decide_true, decide_false, bt_tt, bt_tf, bt_ft, bt_ff, bt_bne, Bool.not_true, Bool.not_false, Int.reduceBEq, Int.reduceBNe, h2]
    exact (kinds_outer K4.k K4.v K4.l (by have := K4.n; omega) ks4.length 0 (by omega)).loop
  have h5 : Ev (fun n m => f8_L0 real (AC n) n m (ptr H.n 0) l2' (.int .i64 0) H5) (.bool true, H7) := C3 _ (C4 _ hend)
  refine ⟨H7, ?_, k1.tr (kk1.trans ((kk2.mono mo1).trans ((kk3.mono fun b h => mo2 b (mo1 b h)).trans (kk4.mono fun b h => mo3 b (mo2 b (mo1 b h))))))⟩
  have third : Ev (fun n m => f8_J3 real (AC n) n v2 (ptr H.n 0) l1' H3) (.bool true, H7) := by
    simp only [f8_J3, real_b, real_i, real_c, chk_t, bnd_some, bnd_up, iff_t, iff_f, gd_t, gd_f, wd_b, wd_u, pick_t, pick_f, b_lss, b_leq, b_gtr, b_geq, b_eql, b_neq, b_seql, b_sneq, b_add, b_sub, u_not, nilC_ptr, fAddr_ptr, Nat.zero_add, extr0, extr1, extr2, lenStr, decide_true, decide_false, bt_tt, bt_tf, bt_ft, bt_ff, bt_bne, Bool.not_true, Bool.not_false, Int.reduceBEq, Int.reduceBNe]
    refine Ev.callC b1 ?_
    by_cases h0 : endE 0 (skey xs) = 0
    · obtain ⟨p1, p2⟩ := A2 h0
      simp only [real_b, real_i, real_c, chk_t, bnd_some, bnd_up, iff_t, iff_f, gd_t, gd_f, wd_b, wd_u, pick_t, pick_f, b_lss, b_leq, b_gtr, b_geq, b_eql, b_neq, b_seql, b_sneq, b_add, b_sub, u_not, nilC_ptr, fAddr_ptr, Nat.zero_add, extr0, extr1, extr2, lenStr, decide_true, decide_false, bt_tt, bt_tf, bt_ft, bt_ff, bt_bne, Bool.not_true, Bool.not_false, Int.reduceBEq, Int.reduceBNe, h0, show bldS 1 1 [.slice none 0 0] [(0, 1, ws)] H4 = _ from p1, p2]
      exact h5.loop
    · obtain ⟨rfl, rfl⟩ := B2 h0
      simp only [real_b, real_i, real_c, chk_t, bnd_some, bnd_up, iff_t, iff_f, gd_t, gd_f, wd_b, wd_u, pick_t, pick_f, b_lss, b_leq, b_gtr, b_geq, b_eql, b_neq, b_seql, b_sneq, b_add, b_sub, u_not, nilC_ptr, fAddr_ptr, Nat.zero_add, extr0, extr1, extr2, lenStr, decide_true, decide_false, bt_tt, bt_tf, bt_ft, bt_ff, bt_bne, Bool.not_true, Bool.not_false, Int.reduceBEq, Int.reduceBNe, show (endE 0 (skey xs) == 0) = false by simpa using h0]
      exact h5.loop
  refine Ev.enter (fun n => f8_eq rfl n _ _ _ _) ?_
  simp only [f8, real_b, real_i, real_c, chk_t, bnd_some, bnd_up, iff_t, iff_f, gd_t, gd_f, wd_b, wd_u, pick_t, pick_f, b_lss, b_leq, b_gtr, b_geq, b_eql, b_neq, b_seql, b_sneq, b_add, b_sub, u_not, nilC_ptr, fAddr_ptr, Nat.zero_add, extr0, extr1, extr2, lenStr, decide_true, decide_false, bt_tt, bt_tf, bt_ft, bt_ff, bt_bne, Bool.not_true, Bool.not_false, Int.reduceBEq, Int.reduceBNe, e1]
  refine Ev.callC a1 ?_
  by_cases h0 : endE 0 (fkey d) = 0
  · obtain ⟨p1, p2⟩ := A1 h0
    simp only [real_b, real_i, real_c, chk_t, bnd_some, bnd_up, iff_t, iff_f, gd_t, gd_f, wd_b, wd_u, pick_t, pick_f, b_lss, b_leq, b_gtr, b_geq, b_eql, b_neq, b_seql, b_sneq, b_add, b_sub, u_not, nilC_ptr, fAddr_ptr, Nat.zero_add, extr0, extr1, extr2, lenStr, decide_true, decide_false, bt_tt, bt_tf, bt_ft, bt_ff, bt_bne, Bool.not_true, Bool.not_false, Int.reduceBEq, Int.reduceBNe, h0, show bldS 1 1 [.slice none 0 0] [(0, 1, wf)] H2 = _ from p1, show app 1 24 (.slice none 0 0) _ _ = _ from p2]
    exact third
  · obtain ⟨rfl, rfl⟩ := B1 h0
    simp only [real_b, real_i, real_c, chk_t, bnd_some, bnd_up, iff_t, iff_f, gd_t, gd_f, wd_b, wd_u, pick_t, pick_f, b_lss, b_leq, b_gtr, b_geq, b_eql, b_neq, b_seql, b_sneq, b_add, b_sub, u_not, nilC_ptr, fAddr_ptr, Nat.zero_add, extr0, extr1, extr2, lenStr, decide_true, decide_false, bt_tt, bt_tf, bt_ft, bt_ff, bt_bne, Bool.not_true, Bool.not_false, Int.reduceBEq, Int.reduceBNe, show (endE 0 (fkey d) == 0) = false by simpa using h0]
    exact third
end Go.Eng
