/- TalkCut. -/
import Derived.Test.YtmjeefecjgfdjaaDoorTQ
set_option linter.unusedVariables false
set_option linter.unusedSimpArgs false
namespace Go.Eng
open Go Go.Proofs

section
variable {H0 : Heap} {a b v : Value} {A C m : List Nat} {e f : Int}
/-- What is known of the two writings. -/
structure Cuts (H0 : Heap) (a b v : Value) (A C m : List Nat) (e f : Int) : Prop where
  a : By H0 A a
  b : By H0 C b
  v : By H0 m v
  ab : ∀ c ∈ A, c < 256
  bb : ∀ c ∈ C, c < 256
  mb : ∀ c ∈ m, c < 256
  al : A.length ≤ 8300
  bl : C.length ≤ 262300
  ml : m.length ≤ 2000000
  ae : e ≠ 0 → A = []
  be : f ≠ 0 → C = []
  acut : ∀ i, i < A.length → (askedP (A.take i)).2 = 290
  bcut : ∀ i, i < C.length → (ansdP (C.take i)).2 = 290
  amore : e = 0 → m ≠ [] → (askedP (A ++ m)).2 = 290
  bmore : f = 0 → m ≠ [] → (ansdP (C ++ m)).2 = 290

theorem cut_J1 (H : Heap) : ∃ H', Ev (fun n _ => f8_J1 real (AC n) n H) (.bool true, H') := by
  refine ⟨H, ?_⟩
  simp only [f8_J1, real_b, real_i, real_c]
  refine Ev.callC (awake_ok _) ?_
  exact Ev.pure _
theorem z290 : ((290 : Int) != 290) = false := rfl
theorem cut_J2 (h : Cuts H0 a b v A C m e f) {G : Heap} (hG : Keep (all H0) H0 G) : ∃ H', Ev (fun n _ => f8_J2 real (AC n) n v b (.int .i64 f) G) (.bool true, H') := by
  have hmm : mostBytes = 140737488355328 := rfl
  have hal := h.al; have hbl := h.bl; have hml := h.ml
  have V := h.v.up hG
  have Bb := h.b.up hG
  obtain ⟨H', j⟩ := cut_J1 G
  by_cases hm : m = []
  · have e1 : ((m.length : Int) > 0) = False := by simp [hm]
    refine ⟨H', ?_⟩
    simp only [f8_J2, real_b, real_i, real_c, chk_t, bnd_some, bnd_up, iff_t, iff_f, gd_t, gd_f, wd_b, wd_u, pick_t, pick_f, b_lss, b_leq, b_gtr, b_geq, b_eql, b_neq, b_seql, b_sneq, b_add, b_sub, u_not, nilC_ptr, fAddr_ptr, Nat.zero_add, extr0, extr1, extr2, lenStr, decide_true, decide_false, bt_tt, bt_tf, bt_ft, bt_ff, bt_bne, Bool.not_true, Bool.not_false, Int.reduceBEq, Int.reduceBNe, extr30, extr31, V.lenS, e1]
    exact j
  · have e1 : ((m.length : Int) > 0) = True := by
      have : 0 < m.length := List.length_pos_iff.2 hm
      simp; omega
    by_cases hf : f = 0
    · obtain ⟨u, G1, c1, c2, c3⟩ := copy_ok Bb (by omega)
      obtain ⟨t, G2, d1, d2, d3⟩ := c2.app (by_ := 1) ((Rb.all G).mono c3.1) (V.up c3).addend V.len (by omega)
      rw [← B_append, ← List.length_append] at d2
      obtain ⟨w, G3, g1, g2, g3⟩ := ansd_ok d2.sl (fun c hc => by
        rcases List.mem_append.1 hc with h' | h'
        · exact h.bb c h'
        · exact h.mb c h') (by rw [List.length_append]; omega)
      rw [h.bmore hf hm] at g1
      have s5 : stV 5 (ptr G3.n 0) (rpV (ansdP (C ++ m)).1.k (ansdP (C ++ m)).1.e (ansdP (C ++ m)).1.a (ansdP (C ++ m)).1.l w) (G3.push ⟨[.int .i64 0, .int .i64 0, .int .i64 0, .string (bs []), nilS], 1, true⟩) = some (undef, G3.push ⟨[.int .i64 (ansdP (C ++ m)).1.k, .int .i64 (ansdP (C ++ m)).1.e, .int .i64 (ansdP (C ++ m)).1.a, .string (bs (ansdP (C ++ m)).1.l), w], 1, true⟩) := stA_push (ds := [.int .i64 (ansdP (C ++ m)).1.k, .int .i64 (ansdP (C ++ m)).1.e, .int .i64 (ansdP (C ++ m)).1.a, .string (bs (ansdP (C ++ m)).1.l), w]) rfl rfl (all5 g2.oneC.1)
      obtain ⟨H', j⟩ := cut_J1 (G3.push ⟨[.int .i64 (ansdP (C ++ m)).1.k, .int .i64 (ansdP (C ++ m)).1.e, .int .i64 (ansdP (C ++ m)).1.a, .string (bs (ansdP (C ++ m)).1.l), w], 1, true⟩)
      refine ⟨H', ?_⟩
      simp only [f8_J2, real_b, real_i, real_c, chk_t, bnd_some, bnd_up, iff_t, iff_f, gd_t, gd_f, wd_b, wd_u, pick_t, pick_f, b_lss, b_leq, b_gtr, b_geq, b_eql, b_neq, b_seql, b_sneq, b_add, b_sub, u_not, nilC_ptr, fAddr_ptr, Nat.zero_add, extr0, extr1, extr2, lenStr, decide_true, decide_false, bt_tt, bt_tf, bt_ft, bt_ff, bt_bne, Bool.not_true, Bool.not_false, Int.reduceBEq, Int.reduceBNe, extr30, extr31, V.lenS, e1, hf, z_beq]
      refine Ev.callC c1 ?_
      simp only [real_b, real_i, real_c, chk_t, bnd_some, bnd_up, iff_t, iff_f, gd_t, gd_f, wd_b, wd_u, pick_t, pick_f, b_lss, b_leq, b_gtr, b_geq, b_eql, b_neq, b_seql, b_sneq, b_add, b_sub, u_not, nilC_ptr, fAddr_ptr, Nat.zero_add, extr0, extr1, extr2, lenStr, decide_true, decide_false, bt_tt, bt_tf, bt_ft, bt_ff, bt_bne, Bool.not_true, Bool.not_false, Int.reduceBEq, Int.reduceBNe, extr30, extr31, d1]
      refine Ev.callC g1 ?_
      simp only [real_b, real_i, real_c, chk_t, bnd_some, bnd_up, iff_t, iff_f, gd_t, gd_f, wd_b, wd_u, pick_t, pick_f, b_lss, b_leq, b_gtr, b_geq, b_eql, b_neq, b_seql, b_sneq, b_add, b_sub, u_not, nilC_ptr, fAddr_ptr, Nat.zero_add, extr0, extr1, extr2, lenStr, decide_true, decide_false, bt_tt, bt_tf, bt_ft, bt_ff, bt_bne, Bool.not_true, Bool.not_false, Int.reduceBEq, Int.reduceBNe, extr30, extr31, new5z, s5, z290]
      exact j
    · refine ⟨H', ?_⟩
      simp only [f8_J2, real_b, real_i, real_c, chk_t, bnd_some, bnd_up, iff_t, iff_f, gd_t, gd_f, wd_b, wd_u, pick_t, pick_f, b_lss, b_leq, b_gtr, b_geq, b_eql, b_neq, b_seql, b_sneq, b_add, b_sub, u_not, nilC_ptr, fAddr_ptr, Nat.zero_add, extr0, extr1, extr2, lenStr, decide_true, decide_false, bt_tt, bt_tf, bt_ft, bt_ff, bt_bne, Bool.not_true, Bool.not_false, Int.reduceBEq, Int.reduceBNe, extr30, extr31, V.lenS, e1, eq0 hf]
      exact j
theorem cut_end (h : Cuts H0 a b v A C m e f) {G : Heap} (hG : Keep (all H0) H0 G) {i : Nat} (hi : ¬ (i < C.length ∧ i < 1000)) : ∃ H', Ev (fun n k => f8_L1 real (AC n) n k v a (.int .i64 e) b (.int .i64 f) (.int .i64 (i : Int)) G) (.bool true, H') := by
  have hmm : mostBytes = 140737488355328 := rfl
  have hal := h.al; have hbl := h.bl; have hml := h.ml
  have V := h.v.up hG
  have Aa := h.a.up hG
  have Bb := h.b.up hG
  obtain ⟨H', j⟩ := cut_J2 h hG
  have j : Ev (fun n _ => f8_J2 real (AC n) n v b (.int .i64 f) G) (.bool true, H') := j
  -- the loop's end, whatever stood in its way
  have head : ∀ {r : Value × Heap}, Ev (fun n _ => bnd (up (lenS v) G) fun x78 H98 => bnd (up (binB Tryd.prog .gtr 3 x78 (.int .i64 0)) H98) fun x79 H100 =>
      bnd (gd (wd x79 true) (some (.int .i64 e, H100)) H100) fun x81 H102 => bnd (gd (wd x79 true) (up (binB Tryd.prog .eql 26 x81 (.int .i64 0)) H102) H102) fun x82 H104 => bnd (pickV x79 x82 (.bool false) H104) fun x83 H106 =>
      iff x83 (bnd (AC n 10 [a] H106) fun x86 H108 => bnd (app 1 1 x86 v H108) fun x88 H110 => bnd (AC n 23 [x88] H110) fun x89 H112 => bnd (extr 0 x89 H112) fun x90 H114 => bnd (extr 1 x89 H114) fun x91 H116 =>
        bnd (newV [(.int .i64 0), (.string ⟨#[]⟩), (.slice none 0 0)] H116) fun x17 H118 => bnd (stV 3 x17 x90 H118) fun _ H119 => bnd (up (binB Tryd.prog .neq 26 x91 (.int .i64 290)) H119) fun x93 H121 =>
        iff x93 (some ((.bool false), H121)) (f8_J2 real (AC n) n v b (.int .i64 f) H121)) (f8_J2 real (AC n) n v b (.int .i64 f) H106)) r → Ev (fun n k => f8_L1 real (AC n) n k v a (.int .i64 e) b (.int .i64 f) (.int .i64 (i : Int)) G) r := by
    intro r hr
    refine Ev.step (fun n m => f8_L1.eq_2 _ _ _ _ _ _ _ _ _ _ _) ?_
    by_cases h1 : i < C.length
    · have h2 : ((i : Int) < 1000) = False := by simp; omega
      simp only [real_b, real_i, real_c, chk_t, bnd_some, bnd_up, iff_f, gd_t, gd_f, wd_b, pick_t, pick_f, b_lss, decide_true, decide_false, bt_tt, bt_ft, Bb.lenS, idx_lt h1, h2]
      exact hr
    · simp only [real_b, real_i, real_c, chk_t, bnd_some, bnd_up, iff_f, gd_t, gd_f, wd_b, pick_t, pick_f, b_lss, decide_true, decide_false, bt_tt, bt_ft, Bb.lenS, idx_ge (show C.length ≤ i by omega)]
      exact hr
  by_cases hm : m = []
  · have e1 : ((m.length : Int) > 0) = False := by simp [hm]
    refine ⟨H', head ?_⟩
    simp only [real_b, real_i, real_c, chk_t, bnd_some, bnd_up, iff_t, iff_f, gd_t, gd_f, wd_b, wd_u, pick_t, pick_f, b_lss, b_leq, b_gtr, b_geq, b_eql, b_neq, b_seql, b_sneq, b_add, b_sub, u_not, nilC_ptr, fAddr_ptr, Nat.zero_add, extr0, extr1, extr2, lenStr, decide_true, decide_false, bt_tt, bt_tf, bt_ft, bt_ff, bt_bne, Bool.not_true, Bool.not_false, Int.reduceBEq, Int.reduceBNe, extr30, extr31, V.lenS, e1]
    exact j
  · have e1 : ((m.length : Int) > 0) = True := by
      have : 0 < m.length := List.length_pos_iff.2 hm
      simp; omega
    by_cases he : e = 0
    · obtain ⟨u, G1, c1, c2, c3⟩ := copy_ok Aa (by omega)
      obtain ⟨t, G2, d1, d2, d3⟩ := c2.app (by_ := 1) ((Rb.all G).mono c3.1) (V.up c3).addend V.len (by omega)
      rw [← B_append, ← List.length_append] at d2
      obtain ⟨w, G3, g1, g2, g3⟩ := asked_ok d2.sl (fun c hc => by
        rcases List.mem_append.1 hc with h' | h'
        · exact h.ab c h'
        · exact h.mb c h') (by rw [List.length_append]; omega)
      rw [h.amore he hm] at g1
      have s5 : stV 3 (ptr G3.n 0) (rqV (askedP (A ++ m)).1.k (askedP (A ++ m)).1.l w) (G3.push ⟨[.int .i64 0, .string (bs []), nilS], 1, true⟩) = some (undef, G3.push ⟨[.int .i64 (askedP (A ++ m)).1.k, .string (bs (askedP (A ++ m)).1.l), w], 1, true⟩) := stA_push (ds := [.int .i64 (askedP (A ++ m)).1.k, .string (bs (askedP (A ++ m)).1.l), w]) rfl rfl (all3 g2.oneC.1)
      have K : Keep (all H0) H0 (G3.push ⟨[.int .i64 (askedP (A ++ m)).1.k, .string (bs (askedP (A ++ m)).1.l), w], 1, true⟩) := by
        have q1 : Keep (all G) G G2 := c3.trans d3
        exact hG.tr (q1.tr (g3.tr push_keep))
      obtain ⟨H', j⟩ := cut_J2 h K
      refine ⟨H', head ?_⟩
      simp only [real_b, real_i, real_c, chk_t, bnd_some, bnd_up, iff_t, iff_f, gd_t, gd_f, wd_b, wd_u, pick_t, pick_f, b_lss, b_leq, b_gtr, b_geq, b_eql, b_neq, b_seql, b_sneq, b_add, b_sub, u_not, nilC_ptr, fAddr_ptr, Nat.zero_add, extr0, extr1, extr2, lenStr, decide_true, decide_false, bt_tt, bt_tf, bt_ft, bt_ff, bt_bne, Bool.not_true, Bool.not_false, Int.reduceBEq, Int.reduceBNe, extr30, extr31, V.lenS, e1, he, z_beq]
      refine Ev.callC c1 ?_
      simp only [real_b, real_i, real_c, chk_t, bnd_some, bnd_up, iff_t, iff_f, gd_t, gd_f, wd_b, wd_u, pick_t, pick_f, b_lss, b_leq, b_gtr, b_geq, b_eql, b_neq, b_seql, b_sneq, b_add, b_sub, u_not, nilC_ptr, fAddr_ptr, Nat.zero_add, extr0, extr1, extr2, lenStr, decide_true, decide_false, bt_tt, bt_tf, bt_ft, bt_ff, bt_bne, Bool.not_true, Bool.not_false, Int.reduceBEq, Int.reduceBNe, extr30, extr31, d1]
      refine Ev.callC g1 ?_
      simp only [real_b, real_i, real_c, chk_t, bnd_some, bnd_up, iff_t, iff_f, gd_t, gd_f, wd_b, wd_u, pick_t, pick_f, b_lss, b_leq, b_gtr, b_geq, b_eql, b_neq, b_seql, b_sneq, b_add, b_sub, u_not, nilC_ptr, fAddr_ptr, Nat.zero_add, extr0, extr1, extr2, lenStr, decide_true, decide_false, bt_tt, bt_tf, bt_ft, bt_ff, bt_bne, Bool.not_true, Bool.not_false, Int.reduceBEq, Int.reduceBNe, extr30, extr31, new3z, s5, z290]
      exact j
    · refine ⟨H', head ?_⟩
      simp only [real_b, real_i, real_c, chk_t, bnd_some, bnd_up, iff_t, iff_f, gd_t, gd_f, wd_b, wd_u, pick_t, pick_f, b_lss, b_leq, b_gtr, b_geq, b_eql, b_neq, b_seql, b_sneq, b_add, b_sub, u_not, nilC_ptr, fAddr_ptr, Nat.zero_add, extr0, extr1, extr2, lenStr, decide_true, decide_false, bt_tt, bt_tf, bt_ft, bt_ff, bt_bne, Bool.not_true, Bool.not_false, Int.reduceBEq, Int.reduceBNe, extr30, extr31, V.lenS, e1, eq0 he]
      exact j
theorem cut_L1 (h : Cuts H0 a b v A C m e f) : ∀ (k i : Nat) (G : Heap), i + k = C.length → Keep (all H0) H0 G → ∃ H', Ev (fun n k => f8_L1 real (AC n) n k v a (.int .i64 e) b (.int .i64 f) (.int .i64 (i : Int)) G) (.bool true, H') := by
  have hmm : mostBytes = 140737488355328 := rfl
  have hbl := h.bl
  intro k
  induction k with
  | zero => intro i G hi hG; exact cut_end h hG (by omega)
  | succ k ih =>
    intro i G hi hG
    by_cases h1 : i < 1000
    · have h2 : ((i : Int) < 1000) = True := by simp; omega
      have hlt : i < C.length := by omega
      have hf : f = 0 := Classical.byContradiction fun hf => by have := h.be hf; rw [this] at hlt; simp at hlt
      have Bb := h.b.up hG
      obtain ⟨t, t1, t2⟩ := By.upto Bb (i := i) (by omega)
      obtain ⟨w, G3, g1, g2, g3⟩ := ansd_ok t2 (fun c hc => h.bb c (List.mem_of_mem_take hc)) (by simp; omega)
      rw [h.bcut i hlt] at g1
      have s5 : stV 5 (ptr G3.n 0) (rpV (ansdP (C.take i)).1.k (ansdP (C.take i)).1.e (ansdP (C.take i)).1.a (ansdP (C.take i)).1.l w) (G3.push ⟨[.int .i64 0, .int .i64 0, .int .i64 0, .string (bs []), nilS], 1, true⟩) = some (undef, G3.push ⟨[.int .i64 (ansdP (C.take i)).1.k, .int .i64 (ansdP (C.take i)).1.e, .int .i64 (ansdP (C.take i)).1.a, .string (bs (ansdP (C.take i)).1.l), w], 1, true⟩) := stA_push (ds := [.int .i64 (ansdP (C.take i)).1.k, .int .i64 (ansdP (C.take i)).1.e, .int .i64 (ansdP (C.take i)).1.a, .string (bs (ansdP (C.take i)).1.l), w]) rfl rfl (all5 g2.oneC.1)
      obtain ⟨H', j⟩ := ih (i + 1) (G3.push ⟨[.int .i64 (ansdP (C.take i)).1.k, .int .i64 (ansdP (C.take i)).1.e, .int .i64 (ansdP (C.take i)).1.a, .string (bs (ansdP (C.take i)).1.l), w], 1, true⟩) (by omega) (hG.tr (g3.tr push_keep))
      refine ⟨H', ?_⟩
      refine Ev.step (fun n m => f8_L1.eq_2 _ _ _ _ _ _ _ _ _ _ _) ?_
      rw [hf] at j ⊢
      simp only [real_b, real_i, real_c, chk_t, bnd_some, bnd_up, iff_t, iff_f, gd_t, gd_f, wd_b, wd_u, pick_t, pick_f, b_lss, b_leq, b_gtr, b_geq, b_eql, b_neq, b_seql, b_sneq, b_add, b_sub, u_not, nilC_ptr, fAddr_ptr, Nat.zero_add, extr0, extr1, extr2, lenStr, decide_true, decide_false, bt_tt, bt_tf, bt_ft, bt_ff, bt_bne, Bool.not_true, Bool.not_false, Int.reduceBEq, Int.reduceBNe, extr30, extr31, Bb.lenS, idx_lt hlt, h2, z_beq, t1]
      refine Ev.callC g1 ?_
      simp only [real_b, real_i, real_c, chk_t, bnd_some, bnd_up, iff_t, iff_f, gd_t, gd_f, wd_b, wd_u, pick_t, pick_f, b_lss, b_leq, b_gtr, b_geq, b_eql, b_neq, b_seql, b_sneq, b_add, b_sub, u_not, nilC_ptr, fAddr_ptr, Nat.zero_add, extr0, extr1, extr2, lenStr, decide_true, decide_false, bt_tt, bt_tf, bt_ft, bt_ff, bt_bne, Bool.not_true, Bool.not_false, Int.reduceBEq, Int.reduceBNe, extr30, extr31, new5z, s5, z290, idx_up (show i < 9223372036854775807 by omega)]
      exact j
    · exact cut_end h hG (by omega)
theorem cut_mid (h : Cuts H0 a b v A C m e f) {G : Heap} (hG : Keep (all H0) H0 G) {i : Nat} (hi : ¬ (i < A.length ∧ i < 1000)) : ∃ H', Ev (fun n k => f8_L0 real (AC n) n k v a (.int .i64 e) b (.int .i64 f) (.int .i64 (i : Int)) G) (.bool true, H') := by
  obtain ⟨H', j⟩ := cut_L1 h C.length 0 G (by omega) hG
  have Aa := h.a.up hG
  refine ⟨H', ?_⟩
  refine Ev.step (fun n m => f8_L0.eq_2 _ _ _ _ _ _ _ _ _ _ _) ?_
  by_cases h1 : i < A.length
  · have h2 : ((i : Int) < 1000) = False := by simp; omega
    simp only [real_b, real_i, real_c, chk_t, bnd_some, bnd_up, iff_t, iff_f, gd_t, gd_f, wd_b, wd_u, pick_t, pick_f, b_lss, b_leq, b_gtr, b_geq, b_eql, b_neq, b_seql, b_sneq, b_add, b_sub, u_not, nilC_ptr, fAddr_ptr, Nat.zero_add, extr0, extr1, extr2, lenStr, decide_true, decide_false, bt_tt, bt_tf, bt_ft, bt_ff, bt_bne, Bool.not_true, Bool.not_false, Int.reduceBEq, Int.reduceBNe, extr30, extr31, Aa.lenS, idx_lt h1, h2]
    exact j.loop
  · simp only [real_b, real_i, real_c, chk_t, bnd_some, bnd_up, iff_t, iff_f, gd_t, gd_f, wd_b, wd_u, pick_t, pick_f, b_lss, b_leq, b_gtr, b_geq, b_eql, b_neq, b_seql, b_sneq, b_add, b_sub, u_not, nilC_ptr, fAddr_ptr, Nat.zero_add, extr0, extr1, extr2, lenStr, decide_true, decide_false, bt_tt, bt_tf, bt_ft, bt_ff, bt_bne, Bool.not_true, Bool.not_false, Int.reduceBEq, Int.reduceBNe, extr30, extr31, Aa.lenS, idx_ge (show A.length ≤ i by omega)]
    exact j.loop
theorem cut_L0 (h : Cuts H0 a b v A C m e f) : ∀ (k i : Nat) (G : Heap), i + k = A.length → Keep (all H0) H0 G → ∃ H', Ev (fun n k => f8_L0 real (AC n) n k v a (.int .i64 e) b (.int .i64 f) (.int .i64 (i : Int)) G) (.bool true, H') := by
  have hmm : mostBytes = 140737488355328 := rfl
  have hal := h.al
  intro k
  induction k with
  | zero => intro i G hi hG; exact cut_mid h hG (by omega)
  | succ k ih =>
    intro i G hi hG
    by_cases h1 : i < 1000
    · have h2 : ((i : Int) < 1000) = True := by simp; omega
      have hlt : i < A.length := by omega
      have he : e = 0 := Classical.byContradiction fun he => by have := h.ae he; rw [this] at hlt; simp at hlt
      have Aa := h.a.up hG
      obtain ⟨t, t1, t2⟩ := By.upto Aa (i := i) (by omega)
      obtain ⟨w, G3, g1, g2, g3⟩ := asked_ok t2 (fun c hc => h.ab c (List.mem_of_mem_take hc)) (by simp; omega)
      rw [h.acut i hlt] at g1
      have s5 : stV 3 (ptr G3.n 0) (rqV (askedP (A.take i)).1.k (askedP (A.take i)).1.l w) (G3.push ⟨[.int .i64 0, .string (bs []), nilS], 1, true⟩) = some (undef, G3.push ⟨[.int .i64 (askedP (A.take i)).1.k, .string (bs (askedP (A.take i)).1.l), w], 1, true⟩) := stA_push (ds := [.int .i64 (askedP (A.take i)).1.k, .string (bs (askedP (A.take i)).1.l), w]) rfl rfl (all3 g2.oneC.1)
      obtain ⟨H', j⟩ := ih (i + 1) (G3.push ⟨[.int .i64 (askedP (A.take i)).1.k, .string (bs (askedP (A.take i)).1.l), w], 1, true⟩) (by omega) (hG.tr (g3.tr push_keep))
      refine ⟨H', ?_⟩
      refine Ev.step (fun n m => f8_L0.eq_2 _ _ _ _ _ _ _ _ _ _ _) ?_
      rw [he] at j ⊢
      simp only [real_b, real_i, real_c, chk_t, bnd_some, bnd_up, iff_t, iff_f, gd_t, gd_f, wd_b, wd_u, pick_t, pick_f, b_lss, b_leq, b_gtr, b_geq, b_eql, b_neq, b_seql, b_sneq, b_add, b_sub, u_not, nilC_ptr, fAddr_ptr, Nat.zero_add, extr0, extr1, extr2, lenStr, decide_true, decide_false, bt_tt, bt_tf, bt_ft, bt_ff, bt_bne, Bool.not_true, Bool.not_false, Int.reduceBEq, Int.reduceBNe, extr30, extr31, Aa.lenS, idx_lt hlt, h2, z_beq, t1]
      refine Ev.callC g1 ?_
      simp only [real_b, real_i, real_c, chk_t, bnd_some, bnd_up, iff_t, iff_f, gd_t, gd_f, wd_b, wd_u, pick_t, pick_f, b_lss, b_leq, b_gtr, b_geq, b_eql, b_neq, b_seql, b_sneq, b_add, b_sub, u_not, nilC_ptr, fAddr_ptr, Nat.zero_add, extr0, extr1, extr2, lenStr, decide_true, decide_false, bt_tt, bt_tf, bt_ft, bt_ff, bt_bne, Bool.not_true, Bool.not_false, Int.reduceBEq, Int.reduceBNe, extr30, extr31, new3z, s5, z290, idx_up (show i < 9223372036854775807 by omega)]
      exact j
    · exact cut_mid h hG (by omega)
end
theorem cut_law {H : Heap} {k k' e' a' : Int} {l l' : List UInt8} {x x' m : List Nat} {w w' v : Value} (hw : By H x w) (hx : ∀ c ∈ x, c < 256) (hl : l.length < 9223372036854775807) (hw' : By H x' w') (hx' : ∀ c ∈ x', c < 256) (hv : By H m v) (hmb : ∀ c ∈ m, c < 256) (hml : m.length ≤ 2000000) :
    ∃ H', Cl 8 [rqV k l w, rpV k' e' a' l' w', v] H (.bool true) H' := by
  have k1 : Keep (all H) H (H.push ⟨[.int .i64 k, .string (bs l), w], 1, true⟩) := push_keep
  have b1 : Box (all (H.push ⟨[.int .i64 k, .string (bs l), w], 1, true⟩)) (H.push ⟨[.int .i64 k, .string (bs l), w], 1, true⟩) H.n [.int .i64 k, .string (bs l), w] := push_boxA
  generalize hH1 : H.push ⟨[.int .i64 k, .string (bs l), w], 1, true⟩ = H1 at *
  have k2 : Keep (all H1) H1 (H1.push ⟨[.int .i64 k', .int .i64 e', .int .i64 a', .string (bs l'), w'], 1, true⟩) := push_keep
  have b2 : Box (all (H1.push ⟨[.int .i64 k', .int .i64 e', .int .i64 a', .string (bs l'), w'], 1, true⟩)) (H1.push ⟨[.int .i64 k', .int .i64 e', .int .i64 a', .string (bs l'), w'], 1, true⟩) H1.n [.int .i64 k', .int .i64 e', .int .i64 a', .string (bs l'), w'] := push_boxA
  have b1 := (b1.keep k2).mono (upA k2)
  generalize hH2 : H1.push ⟨[.int .i64 k', .int .i64 e', .int .i64 a', .string (bs l'), w'], 1, true⟩ = H2 at *
  have w2 := (hw.up k1).up k2
  have w2' := (hw'.up k1).up k2
  have v2 := (hv.up k1).up k2
  obtain ⟨a, H3, c1, c2, c3⟩ := ask_ok (k := k) (l := l) w2 hl
  have b3 := (b2.keep c3).mono (upA c3)
  obtain ⟨b, H4, d1, d2, d3⟩ := ans_ok (k := k') (e := e') (a := a') (l := l') (w2'.up c3)
  have hc : Cuts H4 a b v (askP k l x) (ansP k' e' a' l' x') m (ckA k l x.length) (ckB k' e' a' l' x'.length) := by
    refine ⟨c2.sl.up d3, d2.sl, (v2.up c3).up d3, askP_byte hx, ansP_byte hx', hmb, askP_most, ansP_most, hml, fun h => by simp [askP, h], fun h => by simp [ansP, h], ?_, ?_, ?_, ?_⟩
    · intro i hi
      by_cases h0 : ckA k l x.length = 0
      · have e : askP k l x = wrA k l x := by simp [askP, h0]
        rw [e] at hi ⊢
        exact cut_ask h0 hx hi (wrA_byte hx)
      · have e : askP k l x = [] := by simp [askP, h0]
        rw [e] at hi; simp at hi
    · intro i hi
      by_cases h0 : ckB k' e' a' l' x'.length = 0
      · have e : ansP k' e' a' l' x' = wrB k' e' a' l' x' := by simp [ansP, h0]
        rw [e] at hi ⊢
        exact cut_ans h0 hi (wrB_byte hx')
      · have e : ansP k' e' a' l' x' = [] := by simp [ansP, h0]
        rw [e] at hi; simp at hi
    · intro h0 hm
      have e : askP k l x = wrA k l x := by simp [askP, h0]
      rw [e]
      exact more_ask h0 (fun c hc => by
        rcases List.mem_append.1 hc with h' | h'
        · exact wrA_byte hx c h'
        · exact hmb c h') hm
    · intro h0 hm
      have e : ansP k' e' a' l' x' = wrB k' e' a' l' x' := by simp [ansP, h0]
      rw [e]
      exact more_ans h0 (fun c hc => by
        rcases List.mem_append.1 hc with h' | h'
        · exact wrB_byte hx' c h'
        · exact hmb c h') hm
  obtain ⟨H', j⟩ := cut_L0 hc (askP k l x).length 0 H4 (by omega) (Keep.refl _ _)
  refine ⟨H', ?_⟩
  refine Ev.enter (fun n => f8_eq rfl n _ _ _ _) ?_
  simp only [f8, real_b, real_i, real_c, chk_t, bnd_some, bnd_up, iff_t, iff_f, gd_t, gd_f, wd_b, wd_u, pick_t, pick_f, b_lss, b_leq, b_gtr, b_geq, b_eql, b_neq, b_seql, b_sneq, b_add, b_sub, u_not, nilC_ptr, fAddr_ptr, Nat.zero_add, extr0, extr1, extr2, lenStr, decide_true, decide_false, bt_tt, bt_tf, bt_ft, bt_ff, bt_bne, Bool.not_true, Bool.not_false, Int.reduceBEq, Int.reduceBNe, extr30, extr31, rq_new hw.oneC, hH1, rp_new hw'.oneC, hH2, b1.all (n := 3) rfl]
  refine Ev.callC c1 ?_
  simp only [real_b, real_i, real_c, chk_t, bnd_some, bnd_up, iff_t, iff_f, gd_t, gd_f, wd_b, wd_u, pick_t, pick_f, b_lss, b_leq, b_gtr, b_geq, b_eql, b_neq, b_seql, b_sneq, b_add, b_sub, u_not, nilC_ptr, fAddr_ptr, Nat.zero_add, extr0, extr1, extr2, lenStr, decide_true, decide_false, bt_tt, bt_tf, bt_ft, bt_ff, bt_bne, Bool.not_true, Bool.not_false, Int.reduceBEq, Int.reduceBNe, extr30, extr31, b3.all (n := 5) rfl]
  refine Ev.callC d1 ?_
  simp only [real_b, real_i, real_c, chk_t, bnd_some, bnd_up, iff_t, iff_f, gd_t, gd_f, wd_b, wd_u, pick_t, pick_f, b_lss, b_leq, b_gtr, b_geq, b_eql, b_neq, b_seql, b_sneq, b_add, b_sub, u_not, nilC_ptr, fAddr_ptr, Nat.zero_add, extr0, extr1, extr2, lenStr, decide_true, decide_false, bt_tt, bt_tf, bt_ft, bt_ff, bt_bne, Bool.not_true, Bool.not_false, Int.reduceBEq, Int.reduceBNe, extr30, extr31]
  exact j.loop
end Go.Eng
