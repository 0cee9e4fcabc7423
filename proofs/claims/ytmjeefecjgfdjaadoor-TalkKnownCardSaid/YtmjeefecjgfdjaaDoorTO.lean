/- TalkReads. -/
import Derived.Test.YtmjeefecjgfdjaaDoorTN
set_option linter.unusedVariables false
set_option linter.unusedSimpArgs false
namespace Go.Eng
open Go Go.Proofs

def AllB (n : Nat) (cs : List Value) : Prop := ∀ i, i < n → ∃ a, cs[i]? = some (.int .u8 a)
theorem AllB.B (d : List Nat) : AllB d.length (Eng.B d) := fun i hi => ⟨(d[i] : Int), by simp [Eng.B, hi]⟩
theorem AllB.set {n i : Nat} {cs : List Value} {c : Int} (h : AllB n cs) : AllB n (cs.set i (.int .u8 c)) := fun j hj => by
  obtain ⟨a, ha⟩ := h j hj
  rw [List.getElem?_set]
  split
  · rename_i h'
    subst h'
    rw [if_pos (List.getElem?_eq_some_iff.1 ha).1]
    exact ⟨c, rfl⟩
  · exact ⟨a, ha⟩
theorem spoil1 {R : Nat → Prop} {p n : Nat} {cs5 : List Value} {wz u v : Value} {d : List Nat} (hwz : cs5[4]? = some wz) (hn : n < 9223372036854775807) (hd : d.length < 9223372036854775807) :
    ∀ (k i : Nat) (H : Heap) (cs : List Value), i + k = n → Box R H p cs5 → Acc R H 1 wz n cs → AllB n cs → Sl R H 1 u d.length (B d) → Sl R H 1 v d.length (B d) →
    ∃ H', Ev (fun n m => f5_L1 real (AC n) n m v u (ptr p 0) (.int .i64 (i : Int)) H) (.bool true, H') ∧ Keep R H H' := by
  intro k
  induction k with
  | zero =>
    intro i H cs hi hb hz hcs hu hv
    have g := eq_ok hu hv hd
    rw [dec_self] at g
    refine ⟨H, ?_, Keep.refl _ _⟩
    refine Ev.step (fun n m => f5_L1.eq_2 _ _ _ _ _ _ _ _ _) ?_
    simp only [real_b, real_i, real_c, chk_t, bnd_some, bnd_up, iff_t, iff_f, gd_t, gd_f, wd_b, wd_u, pick_t, pick_f, b_lss, b_leq, b_gtr, b_geq, b_eql, b_neq, b_seql, b_sneq, b_add, b_sub, u_not, nilC_ptr, fAddr_ptr, Nat.zero_add, extr0, extr1, extr2, lenStr, decide_true, decide_false, bt_tt, bt_tf, bt_ft, bt_ff, bt_bne, Bool.not_true, Bool.not_false, Int.reduceBEq, Int.reduceBNe, extr30, extr31, hb.ld hwz, hz.sl.lenS, idx_ge (show n ≤ i by omega)]
    refine Ev.callC g ?_
    simp only [real_b, real_i, real_c, chk_t, bnd_some, bnd_up, iff_t, iff_f, gd_t, gd_f, wd_b, wd_u, pick_t, pick_f, b_lss, b_leq, b_gtr, b_geq, b_eql, b_neq, b_seql, b_sneq, b_add, b_sub, u_not, nilC_ptr, fAddr_ptr, Nat.zero_add, extr0, extr1, extr2, lenStr, decide_true, decide_false, bt_tt, bt_tf, bt_ft, bt_ff, bt_bne, Bool.not_true, Bool.not_false, Int.reduceBEq, Int.reduceBNe, extr30, extr31]
    refine Ev.callC (awake_ok _) ?_
    exact Ev.pure _
  | succ k ih =>
    intro i H cs hi hb hz hcs hu hv
    obtain ⟨a, ha⟩ := hcs i (by omega)
    obtain ⟨q, q1, q2⟩ := hz.at1 ha
    obtain ⟨c, hc⟩ := b_xor (P := Tryd.prog) (t := 5) (k := .u8) (a := a) (b := 1)
    obtain ⟨H', s1, s2, s3, _⟩ := hz.set1 (y := .int .u8 c) (by omega) q1 rfl rfl
    obtain ⟨H'', r, rk⟩ := ih (i + 1) H' _ (by omega) (hb.keep s3) s2 hcs.set (hu.keep s3) (hv.keep s3)
    refine ⟨H'', ?_, s3.trans rk⟩
    refine Ev.step (fun n m => f5_L1.eq_2 _ _ _ _ _ _ _ _ _) ?_
    simp only [real_b, real_i, real_c, chk_t, bnd_some, bnd_up, iff_t, iff_f, gd_t, gd_f, wd_b, wd_u, pick_t, pick_f, b_lss, b_leq, b_gtr, b_geq, b_eql, b_neq, b_seql, b_sneq, b_add, b_sub, u_not, nilC_ptr, fAddr_ptr, Nat.zero_add, extr0, extr1, extr2, lenStr, decide_true, decide_false, bt_tt, bt_tf, bt_ft, bt_ff, bt_bne, Bool.not_true, Bool.not_false, Int.reduceBEq, Int.reduceBNe, extr30, extr31, hb.ld hwz, hz.sl.lenS, idx_lt (show i < n by omega), q1, q2, hc, s1, idx_up (show i < 9223372036854775807 by omega)]
    exact r
theorem spoil0 {R Q : Nat → Prop} {p p8 n : Nat} {cs3 : List Value} {wx u v : Value} (hwx : cs3[2]? = some wx) (hn : n < 9223372036854775807) {H0 : Heap}
    (hnext : ∀ H, Keep R H0 H → ∃ H', Ev (fun n m => f5_L1 real (AC n) n m v u (ptr p8 0) (.int .i64 0) H) (.bool true, H') ∧ Keep Q H0 H') :
    ∀ (k i : Nat) (H : Heap) (cs : List Value), i + k = n → Keep R H0 H → Box R H p cs3 → Acc R H 1 wx n cs → AllB n cs →
    ∃ H', Ev (fun n m => f5_L0 real (AC n) n m v u (ptr p 0) (ptr p8 0) (.int .i64 (i : Int)) H) (.bool true, H') ∧ Keep Q H0 H' := by
  intro k
  induction k with
  | zero =>
    intro i H cs hi hk hb hz hcs
    obtain ⟨H', g, gk⟩ := hnext H hk
    refine ⟨H', ?_, gk⟩
    refine Ev.step (fun n m => f5_L0.eq_2 _ _ _ _ _ _ _ _ _ _) ?_
    simp only [real_b, real_i, real_c, chk_t, bnd_some, bnd_up, iff_t, iff_f, gd_t, gd_f, wd_b, wd_u, pick_t, pick_f, b_lss, b_leq, b_gtr, b_geq, b_eql, b_neq, b_seql, b_sneq, b_add, b_sub, u_not, nilC_ptr, fAddr_ptr, Nat.zero_add, extr0, extr1, extr2, lenStr, decide_true, decide_false, bt_tt, bt_tf, bt_ft, bt_ff, bt_bne, Bool.not_true, Bool.not_false, Int.reduceBEq, Int.reduceBNe, extr30, extr31, hb.ld hwx, hz.sl.lenS, idx_ge (show n ≤ i by omega)]
    exact g.loop
  | succ k ih =>
    intro i H cs hi hk hb hz hcs
    obtain ⟨a, ha⟩ := hcs i (by omega)
    obtain ⟨q, q1, q2⟩ := hz.at1 ha
    obtain ⟨c, hc⟩ := b_xor (P := Tryd.prog) (t := 5) (k := .u8) (a := a) (b := 1)
    obtain ⟨H', s1, s2, s3, _⟩ := hz.set1 (y := .int .u8 c) (by omega) q1 rfl rfl
    obtain ⟨H'', r, rk⟩ := ih (i + 1) H' _ (by omega) (hk.trans s3) (hb.keep s3) s2 hcs.set
    refine ⟨H'', ?_, rk⟩
    refine Ev.step (fun n m => f5_L0.eq_2 _ _ _ _ _ _ _ _ _ _) ?_
    simp only [real_b, real_i, real_c, chk_t, bnd_some, bnd_up, iff_t, iff_f, gd_t, gd_f, wd_b, wd_u, pick_t, pick_f, b_lss, b_leq, b_gtr, b_geq, b_eql, b_neq, b_seql, b_sneq, b_add, b_sub, u_not, nilC_ptr, fAddr_ptr, Nat.zero_add, extr0, extr1, extr2, lenStr, decide_true, decide_false, bt_tt, bt_tf, bt_ft, bt_ff, bt_bne, Bool.not_true, Bool.not_false, Int.reduceBEq, Int.reduceBNe, extr30, extr31, hb.ld hwx, hz.sl.lenS, idx_lt (show i < n by omega), q1, q2, hc, s1, idx_up (show i < 9223372036854775807 by omega)]
    exact r
theorem askedP_len (d : List Nat) : (askedP d).1.x.length ≤ 8192 := by
  unfold askedP
  split
  · exact sT_len
  · simp
theorem ansdP_len (d : List Nat) : (ansdP d).1.x.length ≤ 262144 := by
  unfold ansdP
  split
  · exact sT_len
  · simp
theorem askedP_byte {d : List Nat} (hd : ∀ x ∈ d, x < 256) : ∀ c ∈ (askedP d).1.x, c < 256 := by
  rcases askedP_says d with h | h
  · exact (just_ask hd h).2.2
  · rw [h.2]; simp
theorem ansdP_byte {d : List Nat} (hd : ∀ x ∈ d, x < 256) : ∀ c ∈ (ansdP d).1.x, c < 256 := by
  rcases ansdP_says d with h | h
  · exact (just_ans hd h).2.2
  · rw [h.2]; simp
theorem reads_law {H : Heap} {d : List Nat} {v : Value} (hv : By H d v) (hd : ∀ c ∈ d, c < 256) (hm : d.length ≤ mostBytes) : ∃ H', Cl 5 [v] H (.bool true) H' ∧ Keep (all H) H H' := by
  have hmm : mostBytes = 140737488355328 := rfl
  obtain ⟨u, H1, a1, a2, a3⟩ := copy_ok hv hm
  have v1 := hv.up a3
  obtain ⟨wx, H2, c1, c2, c3⟩ := asked_ok a2.sl hd hm
  have x_at := fun b => c2.at (b := b)
  generalize hX : (askedP d).1 = X at *
  generalize hXe : (askedP d).2 = Xe at *
  have k3 : Keep (all H2) H2 (H2.push ⟨[.int .i64 X.k, .string (bs X.l), wx], 1, true⟩) := push_keep
  have b4 : Box (all (H2.push ⟨[.int .i64 X.k, .string (bs X.l), wx], 1, true⟩)) (H2.push ⟨[.int .i64 X.k, .string (bs X.l), wx], 1, true⟩) H2.n [.int .i64 X.k, .string (bs X.l), wx] := push_boxA
  have s4 : stV 3 (ptr H2.n 0) (rqV X.k X.l wx) (H2.push ⟨[.int .i64 0, .string (bs []), nilS], 1, true⟩) = some (undef, H2.push ⟨[.int .i64 X.k, .string (bs X.l), wx], 1, true⟩) := stA_push (ds := [.int .i64 X.k, .string (bs X.l), wx]) rfl rfl (all3 c2.oneC.1)
  generalize hH3 : H2.push ⟨[.int .i64 X.k, .string (bs X.l), wx], 1, true⟩ = H3 at *
  obtain ⟨wy, H4, d1, d2, d3⟩ := rasked_ok ((v1.up c3).up k3) hd hm
  rw [hX, hXe] at d1
  rw [hX] at d2
  have k5 : Keep (all H4) H4 (H4.push ⟨[.int .i64 X.k, .string (bs X.l), wy], 1, true⟩) := push_keep
  have b6 : Box (all (H4.push ⟨[.int .i64 X.k, .string (bs X.l), wy], 1, true⟩)) (H4.push ⟨[.int .i64 X.k, .string (bs X.l), wy], 1, true⟩) H4.n [.int .i64 X.k, .string (bs X.l), wy] := push_boxA
  have s6 : stV 3 (ptr H4.n 0) (rqV X.k X.l wy) (H4.push ⟨[.int .i64 0, .string (bs []), nilS], 1, true⟩) = some (undef, H4.push ⟨[.int .i64 X.k, .string (bs X.l), wy], 1, true⟩) := stA_push (ds := [.int .i64 X.k, .string (bs X.l), wy]) rfl rfl (all3 d2.oneC.1)
  generalize hH5 : H4.push ⟨[.int .i64 X.k, .string (bs X.l), wy], 1, true⟩ = H5 at *
  have K15 : Keep (all H1) H1 H5 := c3.tr (k3.tr (d3.tr k5))
  obtain ⟨wz, H6, e1, e2, e3⟩ := ansd_ok (a2.sl.up K15) hd hm
  generalize hZ : (ansdP d).1 = Z at *
  generalize hZe : (ansdP d).2 = Ze at *
  have k7 : Keep (all H6) H6 (H6.push ⟨[.int .i64 Z.k, .int .i64 Z.e, .int .i64 Z.a, .string (bs Z.l), wz], 1, true⟩) := push_keep
  have b8 : Box (all (H6.push ⟨[.int .i64 Z.k, .int .i64 Z.e, .int .i64 Z.a, .string (bs Z.l), wz], 1, true⟩)) (H6.push ⟨[.int .i64 Z.k, .int .i64 Z.e, .int .i64 Z.a, .string (bs Z.l), wz], 1, true⟩) H6.n [.int .i64 Z.k, .int .i64 Z.e, .int .i64 Z.a, .string (bs Z.l), wz] := push_boxA
  have s8 : stV 5 (ptr H6.n 0) (rpV Z.k Z.e Z.a Z.l wz) (H6.push ⟨[.int .i64 0, .int .i64 0, .int .i64 0, .string (bs []), nilS], 1, true⟩) = some (undef, H6.push ⟨[.int .i64 Z.k, .int .i64 Z.e, .int .i64 Z.a, .string (bs Z.l), wz], 1, true⟩) := stA_push (ds := [.int .i64 Z.k, .int .i64 Z.e, .int .i64 Z.a, .string (bs Z.l), wz]) rfl rfl (all5 e2.oneC.1)
  generalize hH7 : H6.push ⟨[.int .i64 Z.k, .int .i64 Z.e, .int .i64 Z.a, .string (bs Z.l), wz], 1, true⟩ = H7 at *
  have K17 : Keep (all H1) H1 H7 := K15.tr (e3.tr k7)
  obtain ⟨ww, H8, g1, g2, g3⟩ := ransd_ok (v1.up K17) hd hm
  rw [hZ, hZe] at g1
  rw [hZ] at g2
  have k9 : Keep (all H8) H8 (H8.push ⟨[.int .i64 Z.k, .int .i64 Z.e, .int .i64 Z.a, .string (bs Z.l), ww], 1, true⟩) := push_keep
  have b10 : Box (all (H8.push ⟨[.int .i64 Z.k, .int .i64 Z.e, .int .i64 Z.a, .string (bs Z.l), ww], 1, true⟩)) (H8.push ⟨[.int .i64 Z.k, .int .i64 Z.e, .int .i64 Z.a, .string (bs Z.l), ww], 1, true⟩) H8.n [.int .i64 Z.k, .int .i64 Z.e, .int .i64 Z.a, .string (bs Z.l), ww] := push_boxA
  have s10 : stV 5 (ptr H8.n 0) (rpV Z.k Z.e Z.a Z.l ww) (H8.push ⟨[.int .i64 0, .int .i64 0, .int .i64 0, .string (bs []), nilS], 1, true⟩) = some (undef, H8.push ⟨[.int .i64 Z.k, .int .i64 Z.e, .int .i64 Z.a, .string (bs Z.l), ww], 1, true⟩) := stA_push (ds := [.int .i64 Z.k, .int .i64 Z.e, .int .i64 Z.a, .string (bs Z.l), ww]) rfl rfl (all5 g2.oneC.1)
  generalize hH9 : H8.push ⟨[.int .i64 Z.k, .int .i64 Z.e, .int .i64 Z.a, .string (bs Z.l), ww], 1, true⟩ = H9 at *
  -- what stands at the end
  have K39 : Keep (all H3) H3 H9 := d3.tr (k5.tr (e3.tr (k7.tr (g3.tr k9))))
  have K59 : Keep (all H5) H5 H9 := e3.tr (k7.tr (g3.tr k9))
  have K79 : Keep (all H7) H7 H9 := g3.tr k9
  have B4 := (b4.keep K39).mono (upA K39)
  have B6 := (b6.keep K59).mono (upA K59)
  have B8 := (b8.keep K79).mono (upA K79)
  have X9 := ((c2.sl.up k3).up K39)
  have Y9 := ((d2.sl.up k5).up K59)
  have Z9 := ((e2.sl.up k7).up K79)
  have W9 := (g2.sl.up k9)
  have hxb : ∀ c ∈ X.x, c < 256 := by rw [← hX]; exact askedP_byte hd
  have hzb : ∀ c ∈ Z.x, c < 256 := by rw [← hZ]; exact ansdP_byte hd
  obtain ⟨H10, m1, m2⟩ := sameask_ok (k := X.k) (k' := X.k) (l := X.l) (l' := X.l) X9 Y9 hxb hxb
  rw [dec_self, dec_self, dec_self] at m1
  obtain ⟨H11, n1, n2⟩ := sameans_ok (k := Z.k) (k' := Z.k) (e := Z.e) (e' := Z.e) (a := Z.a) (a' := Z.a) (l := Z.l) (l' := Z.l) (Z9.up m2) (W9.up m2) hzb hzb
  rw [dec_self, dec_self, dec_self, dec_self, dec_self] at n1
  have K911 : Keep (all H9) H9 H11 := m2.tr n2
  have xlen : X.x.length < 9223372036854775807 := by have := askedP_len d; rw [hX] at this; omega
  have zlen : Z.x.length < 9223372036854775807 := by have := ansdP_len d; rw [hZ] at this; omega
  have hn12 := c3.1; have hn23 := k3.1; have hn34 := d3.1; have hn45 := k5.1; have hn56 := e3.1; have hn67 := k7.1; have hn79 := K79.1; have hn911 := K911.1
  have z_at := fun b => e2.at (b := b)
  have l3 : H2.n < H3.n := b4.1
  have l7 : H6.n < H7.n := b8.1
  have K111 : Keep (all H1) H1 H11 := K17.tr (K79.tr K911)
  have U11 : Sl (all H1) H11 1 u d.length (B d) := a2.sl.keep K111
  have V11 : Sl (all H1) H11 1 v d.length (B d) := v1.keep K111
  have X11 : Acc (fun b => b < H11.n ∧ blkOf wx ≠ some b) H11 1 wx X.x.length (B X.x) := (c2.keep (k3.tr (K39.tr K911))).weak fun b hb h => h.2 hb
  have Z11 : Acc (all H5) H11 1 wz Z.x.length (B Z.x) := e2.keep (k7.tr (K79.tr K911))
  have B4' : Box (fun b => b < H11.n ∧ blkOf wx ≠ some b) H11 H2.n [.int .i64 X.k, .string (bs X.l), wx] := ⟨⟨by omega, fun h => by have := (x_at _ h).2; omega⟩, (B4.keep K911).2⟩
  have B8' : Box (all H11) H11 H6.n [.int .i64 Z.k, .int .i64 Z.e, .int .i64 Z.a, .string (bs Z.l), wz] := (B8.keep K911).mono (upA K911)
  have hnext : ∀ G, Keep (fun b => b < H11.n ∧ blkOf wx ≠ some b) H11 G → ∃ H', Ev (fun n m => f5_L1 real (AC n) n m v u (ptr H6.n 0) (.int .i64 0) G) (.bool true, H') ∧ Keep (all H1) H11 H' := by
    intro G hG
    have hx1 : ∀ b, all H1 b → b < H11.n ∧ blkOf wx ≠ some b := fun b hb => ⟨by have : b < H1.n := hb; omega, fun h => (x_at b h).1 hb⟩
    have hx5 : ∀ b, H2.n ≤ b → b < H11.n → b < H11.n ∧ blkOf wx ≠ some b := fun b hb hb' => ⟨hb', fun h => by have := (x_at b h).2; omega⟩
    have BG : Box (fun b => b < G.n ∧ blkOf wz ≠ some b) G H6.n [.int .i64 Z.k, .int .i64 Z.e, .int .i64 Z.a, .string (bs Z.l), wz] := by
      obtain ⟨h1, sz, ow, h2⟩ := B8'
      refine ⟨⟨Nat.lt_of_lt_of_le h1 hG.1, fun h => by have := (z_at _ h).2; omega⟩, sz, ow, ?_⟩
      rw [hG.2 _ (hx5 _ (by omega) h1)]; exact h2
    have ZG : Acc (fun b => b < G.n ∧ blkOf wz ≠ some b) G 1 wz Z.x.length (B Z.x) := (Z11.gen hG fun b hb hb' => hx5 b (by have : ¬ b < H5.n := hb; omega) hb').weak fun b hb h => h.2 hb
    have toG : ∀ b, all H1 b → b < G.n ∧ blkOf wz ≠ some b := fun b hb => ⟨by have : b < H1.n := hb; have := hG.1; omega, fun h => by have h1 := (z_at b h).1; exact h1 (by have : b < H1.n := hb; show b < H5.n; omega)⟩
    obtain ⟨G', s1, s2⟩ := spoil1 rfl zlen (by omega) Z.x.length 0 G (B Z.x) (by omega) BG ZG (AllB.B _) ((U11.keep (hG.mono hx1)).mono toG) ((V11.keep (hG.mono hx1)).mono toG)
    exact ⟨G', s1, (hG.mono hx1).trans (s2.mono toG)⟩
  obtain ⟨H12, r, rk⟩ := spoil0 (p := H2.n) rfl xlen hnext X.x.length 0 H11 (B X.x) (by omega) (Keep.refl _ _) B4' X11 (AllB.B _)
  refine ⟨H12, ?_, a3.tr (K111.trans rk)⟩
  refine Ev.enter (fun n => f5_eq rfl n _ _) ?_
  simp only [f5, real_b, real_i, real_c]
  refine Ev.callC a1 ?_
  refine Ev.callC c1 ?_
  simp only [real_b, real_i, real_c, chk_t, bnd_some, bnd_up, iff_t, iff_f, gd_t, gd_f, wd_b, wd_u, pick_t, pick_f, b_lss, b_leq, b_gtr, b_geq, b_eql, b_neq, b_seql, b_sneq, b_add, b_sub, u_not, nilC_ptr, fAddr_ptr, Nat.zero_add, extr0, extr1, extr2, lenStr, decide_true, decide_false, bt_tt, bt_tf, bt_ft, bt_ff, bt_bne, Bool.not_true, Bool.not_false, Int.reduceBEq, Int.reduceBNe, extr30, extr31, new3z, s4, hH3]
  refine Ev.callC d1 ?_
  simp only [real_b, real_i, real_c, chk_t, bnd_some, bnd_up, iff_t, iff_f, gd_t, gd_f, wd_b, wd_u, pick_t, pick_f, b_lss, b_leq, b_gtr, b_geq, b_eql, b_neq, b_seql, b_sneq, b_add, b_sub, u_not, nilC_ptr, fAddr_ptr, Nat.zero_add, extr0, extr1, extr2, lenStr, decide_true, decide_false, bt_tt, bt_tf, bt_ft, bt_ff, bt_bne, Bool.not_true, Bool.not_false, Int.reduceBEq, Int.reduceBNe, extr30, extr31, new3z, s6, hH5]
  refine Ev.callC e1 ?_
  simp only [real_b, real_i, real_c, chk_t, bnd_some, bnd_up, iff_t, iff_f, gd_t, gd_f, wd_b, wd_u, pick_t, pick_f, b_lss, b_leq, b_gtr, b_geq, b_eql, b_neq, b_seql, b_sneq, b_add, b_sub, u_not, nilC_ptr, fAddr_ptr, Nat.zero_add, extr0, extr1, extr2, lenStr, decide_true, decide_false, bt_tt, bt_tf, bt_ft, bt_ff, bt_bne, Bool.not_true, Bool.not_false, Int.reduceBEq, Int.reduceBNe, extr30, extr31, new5z, s8, hH7]
  refine Ev.callC g1 ?_
  simp only [real_b, real_i, real_c, chk_t, bnd_some, bnd_up, iff_t, iff_f, gd_t, gd_f, wd_b, wd_u, pick_t, pick_f, b_lss, b_leq, b_gtr, b_geq, b_eql, b_neq, b_seql, b_sneq, b_add, b_sub, u_not, nilC_ptr, fAddr_ptr, Nat.zero_add, extr0, extr1, extr2, lenStr, decide_true, decide_false, bt_tt, bt_tf, bt_ft, bt_ff, bt_bne, Bool.not_true, Bool.not_false, Int.reduceBEq, Int.reduceBNe, extr30, extr31, new5z, s10, hH9, B4.all (n := 3) rfl, B6.all (n := 3) rfl]
  refine Ev.callC m1 ?_
  simp only [real_b, real_i, real_c, chk_t, bnd_some, bnd_up, iff_t, iff_f, gd_t, gd_f, wd_b, wd_u, pick_t, pick_f, b_lss, b_leq, b_gtr, b_geq, b_eql, b_neq, b_seql, b_sneq, b_add, b_sub, u_not, nilC_ptr, fAddr_ptr, Nat.zero_add, extr0, extr1, extr2, lenStr, decide_true, decide_false, bt_tt, bt_tf, bt_ft, bt_ff, bt_bne, Bool.not_true, Bool.not_false, Int.reduceBEq, Int.reduceBNe, extr30, extr31, Bool.and_self, (B8.keep m2).all (n := 5) rfl, (b10.keep m2).all (n := 5) rfl]
  refine Ev.callC n1 ?_
  simp only [real_b, real_i, real_c, chk_t, bnd_some, bnd_up, iff_t, iff_f, gd_t, gd_f, wd_b, wd_u, pick_t, pick_f, b_lss, b_leq, b_gtr, b_geq, b_eql, b_neq, b_seql, b_sneq, b_add, b_sub, u_not, nilC_ptr, fAddr_ptr, Nat.zero_add, extr0, extr1, extr2, lenStr, decide_true, decide_false, bt_tt, bt_tf, bt_ft, bt_ff, bt_bne, Bool.not_true, Bool.not_false, Int.reduceBEq, Int.reduceBNe, extr30, extr31, Bool.and_self]
  exact r.loop
end Go.Eng
