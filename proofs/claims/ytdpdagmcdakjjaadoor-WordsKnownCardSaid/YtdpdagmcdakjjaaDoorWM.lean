/- The law that is awake. -/
import Derived.Test.YtdpdagmcdakjjaaDoorWL
set_option linter.unusedVariables false
set_option linter.unusedSimpArgs false
set_option maxRecDepth 100000
namespace Go.Eng
open Go Go.Proofs

/-- cutN, step by step. -/
def cutF : Nat → Nat → List UInt8 → List Tok × Option Nat
  | 0, _, _ => ([], none)
  | _ + 1, _, [] => ([], none)
  | n + 1, a, c :: r =>
    if wBlank c then cutF n (a + 1) r
    else if c = 35 then cutF n (a + 1 + (r.takeWhile (fun x => decide (x ≠ 10))).length) (r.dropWhile (fun x => decide (x ≠ 10)))
    else if (wordN (c :: r)).1 = 0 then ([], some a)
    else (⟨(wordN (c :: r)).1, a, a + (wordN (c :: r)).2⟩ :: (cutF n (a + (wordN (c :: r)).2) ((c :: r).drop (wordN (c :: r)).2)).1, (cutF n (a + (wordN (c :: r)).2) ((c :: r).drop (wordN (c :: r)).2)).2)
theorem cutF_eq : ∀ (n a : Nat) (l : List UInt8), l.length ≤ n → cutF n a l = cutN a l := by
  intro n
  induction n with
  | zero =>
    intro a l h
    have : l = [] := List.length_eq_zero_iff.1 (by omega)
    subst this; simp [cutF, cut_nil]
  | succ n ih =>
    intro a l h
    cases l with
    | nil => simp [cutF, cut_nil]
    | cons c r =>
      simp only [List.length_cons] at h
      have h1 := dropWhile_le (fun x : UInt8 => decide (x ≠ 10)) r
      simp only [cutF]
      by_cases hb : wBlank c = true
      · rw [if_pos hb, cut_blank hb, ih _ _ (by omega)]
      · rw [if_neg hb]
        by_cases hr : c = 35
        · subst hr
          rw [if_pos rfl, cut_remark, ih _ _ (by omega)]
        · rw [if_neg hr]
          by_cases hw : (wordN (c :: r)).1 = 0
          · rw [if_pos hw, cut_bad (by simpa using hb) hr hw]
          · have := (word_ext hw).1
            rw [if_neg hw, cut_word (by simpa using hb) hr hw, ih _ _ (by simp only [List.length_drop, List.length_cons]; omega)]
theorem cutR_of {l : List UInt8} {x : List Tok × Option Nat} (hl : l.length ≤ 8192) (h : cutF l.length 0 l = x) : cutR l = cutG [] x := by
  rw [cutF_eq _ _ _ (Nat.le_refl _)] at h
  unfold cutR
  rw [if_neg (by omega), h]
/-- Numbers, three a word. -/
def tokI (ts : List Tok) : List Int := ts.flatMap fun t => [(t.K : Int), (t.F : Int), (t.T : Int)]
theorem tokI_len (ts : List Tok) : (tokI ts).length = 3 * ts.length := by
  induction ts with
  | nil => rfl
  | cons t ts ih => simp only [tokI, List.flatMap_cons, List.length_append, List.length_cons, List.length_nil] at *; omega
theorem tokI_drop : ∀ (ts : List Tok) (i : Nat), (tokI ts).drop (3 * i) = tokI (ts.drop i)
  | ts, 0 => by simp
  | [], i + 1 => by simp [tokI]
  | t :: ts, i + 1 => by
    have e : 3 * (i + 1) = 3 * i + 3 := by omega
    rw [e]
    show List.drop (3 * i + 3) ([(t.K : Int), (t.F : Int), (t.T : Int)] ++ tokI ts) = _
    simp only [List.cons_append, List.nil_append, List.drop_succ_cons]
    exact tokI_drop ts i
theorem tokI_at {ts : List Tok} {i : Nat} {t : Tok} (h : ts[i]? = some t) : (tokI ts)[3 * i]? = some (t.K : Int) ∧ (tokI ts)[3 * i + 1]? = some (t.F : Int) ∧ (tokI ts)[3 * i + 2]? = some (t.T : Int) := by
  have hi := (List.getElem?_eq_some_iff.1 h).1
  have hd : (tokI ts).drop (3 * i) = [(t.K : Int), (t.F : Int), (t.T : Int)] ++ tokI (ts.drop (i + 1)) := by
    rw [tokI_drop, List.drop_eq_getElem_cons hi]
    have : ts[i] = t := by rw [List.getElem?_eq_getElem hi] at h; simpa using h
    rw [this]; rfl
  refine ⟨?_, ?_, ?_⟩
  · have : ((tokI ts).drop (3 * i))[0]? = some (t.K : Int) := by rw [hd]; rfl
    rwa [List.getElem?_drop] at this
  · have : ((tokI ts).drop (3 * i))[1]? = some (t.F : Int) := by rw [hd]; rfl
    rwa [List.getElem?_drop] at this
  · have : ((tokI ts).drop (3 * i))[2]? = some (t.T : Int) := by rw [hd]; rfl
    rwa [List.getElem?_drop] at this
theorem cuts_loop {R : Nat → Prop} {H : Heap} {ts : List Tok} {v w : Value} (hs : Tks R H ts v) (hw : Sl R H 1 w (tokI ts).length (I (tokI ts))) (ho : tOk ts) (hl : ts.length ≤ 100000) : ∀ (k i : Nat), i + k = ts.length →
    Ev (fun n m => f34_L0 real (AC n) n m w v (.int .i64 (i : Int)) H) (.bool true, H) := by
  intro k
  induction k with
  | zero =>
    intro i hi
    refine Ev.step (fun n m => f34_L0.eq_2 _ _ _ _ _ _ _ _) ?_
    simp only [real_b, real_i, real_c, chk_t, bnd_some, bnd_up, iff_t, iff_f, gd_t, gd_f, wd_b, wd_u, pick_t, pick_f, b_lss, b_leq, b_gtr, b_geq, b_eql, b_neq, b_seql, b_sneq, b_add, b_sub, u_not, nilC_ptr, fAddr_ptr, Nat.zero_add, extr0, extr1, extr2, lenStr, decide_true, decide_false, bt_tt, bt_tf, bt_ft, bt_ff, bt_bne, Bool.not_true, Bool.not_false, Int.reduceBEq, Int.reduceBNe, extr30, extr31, Sl.lenS hs, idx_ge (show ts.length ≤ i by omega)]
    exact Ev.pure _
  | succ k ih =>
    intro i hi
    obtain ⟨t, h1, h2⟩ := drop_at (l := ts) (i := i) (by omega)
    obtain ⟨b, o, a1, _, _, a2⟩ := hs.at h1
    obtain ⟨q1, q2, q3⟩ := tokI_at h1
    obtain ⟨p1, c1, d1⟩ := hw.at1 (I_at q1)
    obtain ⟨p2, c2, d2⟩ := hw.at1 (I_at q2)
    obtain ⟨p3, c3, d3⟩ := hw.at1 (I_at q3)
    have st := ho t (List.mem_of_getElem? h1)
    have e0 : IntKind.i64.wrap (3 * (i : Int)) = ((3 * i : Nat) : Int) := by rw [wrap_i64 (by omega) (by omega)]; omega
    have e1 : IntKind.i64.wrap (((3 * i : Nat) : Int) + 1) = ((3 * i + 1 : Nat) : Int) := idx_up (by omega)
    have e2 : IntKind.i64.wrap (((3 * i : Nat) : Int) + 2) = ((3 * i + 2 : Nat) : Int) := by rw [wrap_i64 (by omega) (by omega)]; omega
    refine Ev.step (fun n m => f34_L0.eq_2 _ _ _ _ _ _ _ _) ?_
    simp only [real_b, real_i, real_c, chk_t, bnd_some, bnd_up, iff_t, iff_f, gd_t, gd_f, wd_b, wd_u, pick_t, pick_f, b_lss, b_leq, b_gtr, b_geq, b_eql, b_neq, b_seql, b_sneq, b_add, b_sub, u_not, nilC_ptr, fAddr_ptr, Nat.zero_add, extr0, extr1, extr2, lenStr, decide_true, decide_false, bt_tt, bt_tf, bt_ft, bt_ff, bt_bne, Bool.not_true, Bool.not_false, Int.reduceBEq, Int.reduceBNe, extr30, extr31, Sl.lenS hs, idx_lt (show i < ts.length by omega), a1, a2, b_mul, e0, c1, d1, e1, c2, d2, e2, c3, d3, bld3, b_neq33 (inI_nat (show t.K ≤ 9223372036854775807 by omega)) (inI_nat (show t.F ≤ 9223372036854775807 by omega)) (inI_nat (show t.T ≤ 9223372036854775807 by omega)) (inI_nat (show t.K ≤ 9223372036854775807 by omega)) (inI_nat (show t.F ≤ 9223372036854775807 by omega)) (inI_nat (show t.T ≤ 9223372036854775807 by omega)), and_self, idx_up (show i < 9223372036854775807 by omega)]
    exact ih (i + 1) (by omega)
theorem cuts_ok {H : Heap} {s : List UInt8} {ts : List Tok} {v : Value} {d : Nat} (hL : Lg H) (hs : s.length ≤ 8192) (h : cutR s = (ts, 0, 0)) (hv : Sl (all H) H 1 v d (I (tokI ts))) :
    ∃ H', Cl 34 [.string (bs s), v] H (.bool true) H' ∧ Keep (all H) H H' := by
  have hd : d = (tokI ts).length := by have := hv.len; simpa [I] using this.symm
  subst hd
  have hk : Keep (all H) H (H.push ⟨B (U s), 1, true⟩) := push_keep
  have hs1 : SlU (all (H.push ⟨B (U s), 1, true⟩)) (H.push ⟨B (U s), 1, true⟩) s (.slice (some ⟨H.n, 0, none⟩) (U s).length (U s).length) := by
    have := push_Sl (R := all (H.push ⟨B (U s), 1, true⟩)) (H := H) (d := U s) (by simp [all, push_n])
    rw [U_len] at this ⊢
    exact this
  obtain ⟨w, H', w1, w2, w3⟩ := wcut_ok (Box.up hL hk) hs1 (by omega)
  rw [h] at w1 w2
  have k2 := hk.tr w3
  refine ⟨H', ?_, k2⟩
  refine Ev.enter (fun n => f34_eq rfl n _ _ _) ?_
  simp only [f34, real_b, real_i, real_c, chk_t, bnd_some, bnd_up, iff_t, iff_f, gd_t, gd_f, wd_b, wd_u, pick_t, pick_f, b_lss, b_leq, b_gtr, b_geq, b_eql, b_neq, b_seql, b_sneq, b_add, b_sub, u_not, nilC_ptr, fAddr_ptr, Nat.zero_add, extr0, extr1, extr2, lenStr, decide_true, decide_false, bt_tt, bt_tf, bt_ft, bt_ff, bt_bne, Bool.not_true, Bool.not_false, Int.reduceBEq, Int.reduceBNe, extr30, extr31, ofStr_ok (show s.length ≤ mostBytes from Nat.le_trans hs (by decide))]
  refine Ev.callC w1 ?_
  have ht : Tks (all H') H' ts w := w2.sl
  have hv' : Sl (all H') H' 1 v (tokI ts).length (I (tokI ts)) := Sl.up hv k2
  have hlen : ts.length ≤ 8192 := by have := cutR_len s; rw [h] at this; exact this
  have ho : tOk ts := by have := tOk_cutR s; rw [h] at this; exact this
  have e3 : IntKind.i64.wrap (3 * (ts.length : Int)) = ((3 * ts.length : Nat) : Int) := by rw [wrap_i64 (by omega) (by omega)]; omega
  have e4 : (((3 * ts.length : Nat) : Int) != ((3 * ts.length : Nat) : Int)) = false := by simp
  have e5 : lenS v = some (.int .i64 ((3 * ts.length : Nat) : Int)) := by rw [hv'.lenS, tokI_len]
  simp only [real_b, real_i, real_c, chk_t, bnd_some, bnd_up, iff_t, iff_f, gd_t, gd_f, wd_b, wd_u, pick_t, pick_f, b_lss, b_leq, b_gtr, b_geq, b_eql, b_neq, b_seql, b_sneq, b_add, b_sub, u_not, nilC_ptr, fAddr_ptr, Nat.zero_add, extr0, extr1, extr2, lenStr, decide_true, decide_false, bt_tt, bt_tf, bt_ft, bt_ff, bt_bne, Bool.not_true, Bool.not_false, Int.reduceBEq, Int.reduceBNe, extr30, extr31, Sl.lenS ht, b_mul, e3, e5, e4]
  exact (cuts_loop ht hv' ho (by omega) ts.length 0 (by omega)).loop
theorem refuses_ok {H : Heap} {s : List UInt8} {e : Nat} (hL : Lg H) (hs : s.length ≤ 8192) (h : cutR s = ([], (e : Int), 140)) :
    ∃ H', Cl 35 [.string (bs s), .int .i64 (e : Int)] H (.bool true) H' ∧ Keep (all H) H H' := by
  have hk : Keep (all H) H (H.push ⟨B (U s), 1, true⟩) := push_keep
  have hs1 : SlU (all (H.push ⟨B (U s), 1, true⟩)) (H.push ⟨B (U s), 1, true⟩) s (.slice (some ⟨H.n, 0, none⟩) (U s).length (U s).length) := by
    have := push_Sl (R := all (H.push ⟨B (U s), 1, true⟩)) (H := H) (d := U s) (by simp [all, push_n])
    rw [U_len] at this ⊢
    exact this
  obtain ⟨w, H', w1, w2, w3⟩ := wcut_ok (Box.up hL hk) hs1 (by omega)
  rw [h] at w1 w2
  refine ⟨H', ?_, hk.tr w3⟩
  refine Ev.enter (fun n => f35_eq rfl n _ _ _) ?_
  simp only [f35, real_b, real_i, real_c, chk_t, bnd_some, bnd_up, iff_t, iff_f, gd_t, gd_f, wd_b, wd_u, pick_t, pick_f, b_lss, b_leq, b_gtr, b_geq, b_eql, b_neq, b_seql, b_sneq, b_add, b_sub, u_not, nilC_ptr, fAddr_ptr, Nat.zero_add, extr0, extr1, extr2, lenStr, decide_true, decide_false, bt_tt, bt_tf, bt_ft, bt_ff, bt_bne, Bool.not_true, Bool.not_false, Int.reduceBEq, Int.reduceBNe, extr30, extr31, ofStr_ok (show s.length ≤ mostBytes from Nat.le_trans hs (by decide))]
  refine Ev.callC w1 ?_
  have ht : Tks (all H') H' [] w := w2.sl
  have e1 : ((e : Int) == (e : Int)) = true := by simp
  have e2 : lenS w = some (.int .i64 0) := Sl.lenS ht
  simp only [real_b, real_i, real_c, chk_t, bnd_some, bnd_up, iff_t, iff_f, gd_t, gd_f, wd_b, wd_u, pick_t, pick_f, b_lss, b_leq, b_gtr, b_geq, b_eql, b_neq, b_seql, b_sneq, b_add, b_sub, u_not, nilC_ptr, fAddr_ptr, Nat.zero_add, extr0, extr1, extr2, lenStr, decide_true, decide_false, bt_tt, bt_tf, bt_ft, bt_ff, bt_bne, Bool.not_true, Bool.not_false, Int.reduceBEq, Int.reduceBNe, extr30, extr31, e1, e2]
  exact Ev.pure _
theorem awake_cut1 : cutR [116, 101, 114, 109, 32, 110, 32, 61, 32, 47, 91, 48, 45, 57, 93, 43, 47, 59] = ([⟨7, 0, 4⟩, ⟨1, 5, 6⟩, ⟨4, 7, 8⟩, ⟨3, 9, 17⟩, ⟨4, 17, 18⟩], 0, 0) := cutR_of (x := ([⟨7, 0, 4⟩, ⟨1, 5, 6⟩, ⟨4, 7, 8⟩, ⟨3, 9, 17⟩, ⟨4, 17, 18⟩], none)) (by decide) (by kernel_rfl)
theorem awake_cut2 : cutR [105, 109, 112, 111, 114, 116, 32, 34, 97, 47, 98, 46, 103, 34, 59, 32, 35, 32, 120] = ([⟨5, 0, 6⟩, ⟨2, 7, 14⟩, ⟨4, 14, 15⟩], 0, 0) := cutR_of (x := ([⟨5, 0, 6⟩, ⟨2, 7, 14⟩, ⟨4, 14, 15⟩], none)) (by decide) (by kernel_rfl)
theorem awake_cut3 : cutR [114, 117, 108, 101, 115, 32, 58, 32, 57] = ([], ((8 : Nat) : Int), 140) := cutR_of (x := ([⟨1, 0, 5⟩, ⟨4, 6, 7⟩], some 8)) (by decide) (by kernel_rfl)
theorem awake_cut4 : cutR [47, 97, 92, 47, 98, 47, 32, 47, 97] = ([], ((7 : Nat) : Int), 140) := cutR_of (x := ([⟨3, 0, 6⟩], some 7)) (by decide) (by kernel_rfl)
def awk1 : List Int := [7, 0, 4, 1, 5, 6, 4, 7, 8, 3, 9, 17, 4, 17, 18]
def awk2 : List Int := [5, 0, 6, 2, 7, 14, 4, 14, 15]
theorem awake_b1 {H : Heap} : bldS 1 15 [.int .i64 0] [(0, 1, .int .i64 7), (1, 1, .int .i64 0), (2, 1, .int .i64 4), (3, 1, .int .i64 1), (4, 1, .int .i64 5), (5, 1, .int .i64 6), (6, 1, .int .i64 4), (7, 1, .int .i64 7), (8, 1, .int .i64 8), (9, 1, .int .i64 3), (10, 1, .int .i64 9), (11, 1, .int .i64 17), (12, 1, .int .i64 4), (13, 1, .int .i64 17), (14, 1, .int .i64 18)] H =
    some (.slice (some ⟨H.n, 0, none⟩) 15 15, H.push ⟨I awk1, 1, true⟩) := by kernel_rfl
theorem awake_b2 {H : Heap} : bldS 1 9 [.int .i64 0] [(0, 1, .int .i64 5), (1, 1, .int .i64 0), (2, 1, .int .i64 6), (3, 1, .int .i64 2), (4, 1, .int .i64 7), (5, 1, .int .i64 14), (6, 1, .int .i64 4), (7, 1, .int .i64 14), (8, 1, .int .i64 15)] H =
    some (.slice (some ⟨H.n, 0, none⟩) 9 9, H.push ⟨I awk2, 1, true⟩) := by kernel_rfl
theorem awake_ok {H : Heap} (hL : Lg H) : ∃ H', Cl 15 [] H (.bool true) H' ∧ Keep (all H) H H' := by
  have k1 : Keep (all H) H (H.push ⟨I awk1, 1, true⟩) := push_keep
  obtain ⟨H1, a1, b1⟩ := cuts_ok (H := H.push ⟨I awk1, 1, true⟩) (v := .slice (some ⟨H.n, 0, none⟩) 15 15) (d := 15) (Box.up hL k1) (by decide) awake_cut1 (push_SlI (R := all (H.push ⟨I awk1, 1, true⟩)) (H := H) (d := awk1) (by simp [all, push_n]))
  have K1 := k1.tr b1
  have k2 : Keep (all H1) H1 (H1.push ⟨I awk2, 1, true⟩) := push_keep
  obtain ⟨H2, a2, b2⟩ := cuts_ok (H := H1.push ⟨I awk2, 1, true⟩) (v := .slice (some ⟨H1.n, 0, none⟩) 9 9) (d := 9) (Box.up (Box.up hL K1) k2) (by decide) awake_cut2 (push_SlI (R := all (H1.push ⟨I awk2, 1, true⟩)) (H := H1) (d := awk2) (by simp [all, push_n]))
  have K2 := K1.tr (k2.tr b2)
  obtain ⟨H3, a3, b3⟩ := refuses_ok (Box.up hL K2) (by decide) awake_cut3
  have K3 := K2.tr b3
  obtain ⟨H4, a4, b4⟩ := refuses_ok (Box.up hL K3) (by decide) awake_cut4
  have K4 := K3.tr b4
  have a5 := spelled_ok (Box.up hL K4) 12
  have e5 : spelledN 12 = [114, 117, 108, 101] := by decide
  rw [e5] at a5
  refine ⟨H4, ?_, K4⟩
  refine Ev.enter (fun n => f15_eq rfl n _) ?_
  simp only [f15, real_b, real_i, real_c, chk_t, bnd_some, bnd_up, iff_t, iff_f, gd_t, gd_f, wd_b, wd_u, pick_t, pick_f, b_lss, b_leq, b_gtr, b_geq, b_eql, b_neq, b_seql, b_sneq, b_add, b_sub, u_not, nilC_ptr, fAddr_ptr, Nat.zero_add, extr0, extr1, extr2, lenStr, decide_true, decide_false, bt_tt, bt_tf, bt_ft, bt_ff, bt_bne, Bool.not_true, Bool.not_false, Int.reduceBEq, Int.reduceBNe, extr30, extr31, awake_b1]
  refine Ev.callC a1 ?_
  simp only [real_b, real_i, real_c, chk_t, bnd_some, bnd_up, iff_t, iff_f, gd_t, gd_f, wd_b, wd_u, pick_t, pick_f, b_lss, b_leq, b_gtr, b_geq, b_eql, b_neq, b_seql, b_sneq, b_add, b_sub, u_not, nilC_ptr, fAddr_ptr, Nat.zero_add, extr0, extr1, extr2, lenStr, decide_true, decide_false, bt_tt, bt_tf, bt_ft, bt_ff, bt_bne, Bool.not_true, Bool.not_false, Int.reduceBEq, Int.reduceBNe, extr30, extr31, awake_b2]
  refine Ev.callC a2 ?_
  simp only [real_b, real_i, real_c, chk_t, bnd_some, bnd_up, iff_t, iff_f, gd_t, gd_f, wd_b, wd_u, pick_t, pick_f, b_lss, b_leq, b_gtr, b_geq, b_eql, b_neq, b_seql, b_sneq, b_add, b_sub, u_not, nilC_ptr, fAddr_ptr, Nat.zero_add, extr0, extr1, extr2, lenStr, decide_true, decide_false, bt_tt, bt_tf, bt_ft, bt_ff, bt_bne, Bool.not_true, Bool.not_false, Int.reduceBEq, Int.reduceBNe, extr30, extr31]
  refine Ev.callC a3 ?_
  simp only [real_b, real_i, real_c, chk_t, bnd_some, bnd_up, iff_t, iff_f, gd_t, gd_f, wd_b, wd_u, pick_t, pick_f, b_lss, b_leq, b_gtr, b_geq, b_eql, b_neq, b_seql, b_sneq, b_add, b_sub, u_not, nilC_ptr, fAddr_ptr, Nat.zero_add, extr0, extr1, extr2, lenStr, decide_true, decide_false, bt_tt, bt_tf, bt_ft, bt_ff, bt_bne, Bool.not_true, Bool.not_false, Int.reduceBEq, Int.reduceBNe, extr30, extr31]
  refine Ev.callC a4 ?_
  simp only [real_b, real_i, real_c, chk_t, bnd_some, bnd_up, iff_t, iff_f, gd_t, gd_f, wd_b, wd_u, pick_t, pick_f, b_lss, b_leq, b_gtr, b_geq, b_eql, b_neq, b_seql, b_sneq, b_add, b_sub, u_not, nilC_ptr, fAddr_ptr, Nat.zero_add, extr0, extr1, extr2, lenStr, decide_true, decide_false, bt_tt, bt_tf, bt_ft, bt_ff, bt_bne, Bool.not_true, Bool.not_false, Int.reduceBEq, Int.reduceBNe, extr30, extr31]
  refine Ev.callC a5 ?_
  have e6 : binB Tryd.prog .eql 9 (.string (bs [114, 117, 108, 101])) (.string ⟨#[114, 117, 108, 101]⟩) = some (.bool true) := by
    have := bs_eql (P := Tryd.prog) (t := 9) (a := [114, 117, 108, 101]) (b := [114, 117, 108, 101])
    rw [decide_eq_true rfl] at this
    exact this
  simp only [real_b, real_i, real_c, chk_t, bnd_some, bnd_up, iff_t, iff_f, gd_t, gd_f, wd_b, wd_u, pick_t, pick_f, b_lss, b_leq, b_gtr, b_geq, b_eql, b_neq, b_seql, b_sneq, b_add, b_sub, u_not, nilC_ptr, fAddr_ptr, Nat.zero_add, extr0, extr1, extr2, lenStr, decide_true, decide_false, bt_tt, bt_tf, bt_ft, bt_ff, bt_bne, Bool.not_true, Bool.not_false, Int.reduceBEq, Int.reduceBNe, extr30, extr31, e6]
  exact Ev.pure _
end Go.Eng
