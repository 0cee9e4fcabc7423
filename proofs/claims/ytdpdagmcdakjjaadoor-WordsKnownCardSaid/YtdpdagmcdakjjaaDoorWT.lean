/- The law WordsKnown. -/
import Derived.Test.YtdpdagmcdakjjaaDoorWS
set_option linter.unusedVariables false
set_option linter.unusedSimpArgs false
set_option maxRecDepth 100000
namespace Go.Eng
open Go Go.Proofs

theorem acall_ext {P : Program} {gl : Bool} {E : Ext} {f : FuncId} {fn : Func} {g : List Value → Heap → Option (Value × Heap)} (hf : P.funcs[f]? = some fn) (hn : (fn.name == "runtime.NumGoroutine") = false) (hb : fn.body.isSome = true) (h : E f = some g) (n : Nat) (args : List Value) (H : Heap) : acall P gl E (n + 1) f args H = g args H := by
  obtain ⟨c, hc⟩ := Option.isSome_iff_exists.1 hb
  unfold acall
  rw [hf]
  simp only [hn, hc, h]
theorem rep_ok {s : ByteArray} {c : Nat} (hc : c ≤ 9223372036854775807) (hl : s.size * c ≤ 140737488355328) (H : Heap) : Cl 29 [.string s, .int .i64 (c : Int)] H (.string (bs (Lib.repeatL s.data.toList c))) H := by
  refine ⟨1, fun n m hn _ => ?_⟩
  obtain ⟨k, rfl⟩ : ∃ k, n = k + 1 := ⟨n - 1, by omega⟩
  refine (acall_ext Tryd.func29 (by kernel_rfl) (by kernel_rfl) (g := fun args H => match args with
    | [.string s, .int .i64 c] => if 0 ≤ c ∧ c ≤ 9223372036854775807 ∧ s.size * c.toNat ≤ 140737488355328 then some (.string (bs (Lib.repeatL s.data.toList c.toNat)), H) else none
    | _ => none) rfl k _ H).trans ?_
  simp only
  rw [if_pos ⟨by omega, by omega, hl⟩]
  rfl
theorem rep_B : ∀ n, rep n [.int .u8 0] = B (List.replicate n 0)
  | 0 => rfl
  | n + 1 => by
    simp only [rep, List.replicate_succ, rep_B n]
    rfl
theorem mkS_ok {N : Nat} (h : N ≤ 140737488355328) {H : Heap} : mkS 1 1 [.int .u8 0] (.int .i64 (N : Int)) (.int .i64 (N : Int)) H = some (.slice (some ⟨H.n, 0, none⟩) N N, H.push ⟨B (List.replicate N 0), 1, true⟩) := by
  have hall : (B (List.replicate N 0)).all oneC = true := by
    rw [List.all_eq_true]
    intro v hv
    simp only [B, List.mem_map] at hv
    obtain ⟨_, _, rfl⟩ := hv
    rfl
  simp only [mkS]
  rw [if_pos ⟨by omega, by omega, by omega, rfl, by omega, by omega⟩, rep_B]
  simp only [newS, Int.toNat_natCast, hall, if_true]
/-- A text's bytes go through a law. -/
theorem cut_str {H : Heap} {l : List UInt8} (hL : Lg H) (hb : l.length ≤ 100000) : ofStr (.string (bs l)) H = some (.slice (some ⟨H.n, 0, none⟩) (U l).length (U l).length, H.push ⟨B (U l), 1, true⟩) ∧
    (∃ H', Cl 3 [.slice (some ⟨H.n, 0, none⟩) (U l).length (U l).length] (H.push ⟨B (U l), 1, true⟩) (.bool true) H' ∧ Keep (all H) H H') ∧
    (∃ H', Cl 4 [.slice (some ⟨H.n, 0, none⟩) (U l).length (U l).length] (H.push ⟨B (U l), 1, true⟩) (.bool true) H' ∧ Keep (all H) H H') := by
  have hm : mostBytes = 140737488355328 := rfl
  have k : Keep (all H) H (H.push ⟨B (U l), 1, true⟩) := push_keep
  obtain ⟨H1, a1, a2⟩ := wordsCut_ok (Box.up hL k) (push_U (H := H) (l := l)) (by omega)
  obtain ⟨H2, b1, b2⟩ := wordsOrder_ok (Box.up hL k) (push_U (H := H) (l := l)) (by omega)
  exact ⟨ofStr_ok (by omega), ⟨H1, a1, k.tr a2⟩, ⟨H2, b1, k.tr b2⟩⟩
theorem forms_bld {H : Heap} {a b c d : ByteArray} : bldS 1 4 [.string ⟨#[]⟩] [(0, 1, .string a), (1, 1, .string b), (2, 1, .string c), (3, 1, .string d)] H = some (.slice (some ⟨H.n, 0, none⟩) 4 4, H.push ⟨[.string a, .string b, .string c, .string d], 1, true⟩) := by kernel_rfl
def forms (s : List UInt8) : List (List UInt8) := [s, 34 :: (s ++ [34]), 47 :: (s ++ [47]), 120 :: 61 :: (s ++ [59, 35])]
theorem forms_len {s t : List UInt8} (h : t ∈ forms s) (hs : s.length ≤ 33) : t.length ≤ 40 := by
  simp only [forms, List.mem_cons, List.not_mem_nil, or_false] at h
  rcases h with rfl | rfl | rfl | rfl <;> (try simp only [List.length_cons, List.length_append, List.length_nil]) <;> omega
theorem tmod_nat (a b : Nat) : Int.tmod (a : Int) (b : Int) = ((a % b : Nat) : Int) := rfl
/-- The texts lie. -/
def Ks (H : Heap) (ls : List (List UInt8)) (v : Value) : Prop := Sl (all H) H 1 v ls.length (STR ls) ∧ (∀ l ∈ ls, l.length ≤ 33) ∧ 0 < ls.length ∧ ls.length ≤ 1000
theorem Ks.up {H H' : Heap} {ls : List (List UInt8)} {v : Value} (h : Ks H ls v) (k : Keep (all H) H H') : Ks H' ls v := ⟨Sl.up h.1 k, h.2⟩
theorem Ks.at {H : Heap} {ls : List (List UInt8)} {v : Value} (h : Ks H ls v) {i : Nat} (hi : i < ls.length) : ∃ l p, ls[i]? = some l ∧ l.length ≤ 33 ∧ iAddrS 1 v (.int .i64 (i : Int)) = some p ∧ ldC p H = some (.string (bs l), H) := by
  obtain ⟨l, h1, _⟩ := drop_at (l := ls) hi
  obtain ⟨p, g1, g2⟩ := h.1.at1 (i := i) (x := .string (bs l)) (by simp [STR, h1])
  exact ⟨l, p, h1, h.2.1 l (List.mem_of_getElem? h1), g1, g2⟩
theorem known_L1 {H0 : Heap} {ls : List (List UInt8)} {v : Value} {i : Nat} (hi : i < ls.length) (hks : Ks H0 ls v) (next : ∀ H, Keep (all H0) H0 H → Lg H → ∃ H', Ev (fun n m => f9_L0 real (AC n) n m v (.int .i64 ((i + 1 : Nat) : Int)) H) (.bool true, H')) :
    ∀ (q j : Nat) (H : Heap), j + q = 4 → Keep (all H0) H0 H → Lg H → ∃ H', Ev3 (fun n m k => f9_L1 real (AC n) n (f9_L0 real (AC n) n m) k v (.int .i64 (i : Int)) (.int .i64 (j : Int)) H) (.bool true, H') := by
  have hm : mostBytes = 140737488355328 := rfl
  obtain ⟨_, _, hl1, hl2⟩ := hks
  have hks : Ks H0 ls v := ⟨by assumption, by assumption, hl1, hl2⟩
  have hup : IntKind.i64.wrap ((i : Int) + 1) = ((i + 1 : Nat) : Int) := idx_up (by omega)
  intro q
  induction q with
  | zero =>
    intro j H hj hK hL
    obtain rfl : j = 4 := by omega
    obtain ⟨H', g⟩ := next H hK hL
    refine ⟨H', ?_⟩
    refine Ev3.step (fun n m k => f9_L1.eq_2 _ _ _ _ _ _ _ _ _) ?_
    have e : (((4 : Nat) : Int) < 4) = False := by simp
    simp only [real_b, real_i, real_c, chk_t, bnd_some, bnd_up, iff_t, iff_f, gd_t, gd_f, wd_b, wd_u, pick_t, pick_f, b_lss, b_leq, b_gtr, b_geq, b_eql, b_neq, b_seql, b_sneq, b_add, b_sub, u_not, nilC_ptr, fAddr_ptr, Nat.zero_add, extr0, extr1, extr2, lenStr, decide_true, decide_false, bt_tt, bt_tf, bt_ft, bt_ff, bt_bne, Bool.not_true, Bool.not_false, Int.reduceBEq, Int.reduceBNe, extr30, extr31, e, hup]
    exact Ev3.of g
  | succ q ih =>
    intro j H hj hK hL
    have hk := hks.up hK
    obtain ⟨s, p, s1, s2, s3, s4⟩ := hk.at hi
    obtain ⟨s', p', s1', s2', s3', _⟩ := hk.at (i := (i + 1) % ls.length) (Nat.mod_lt _ hl1)
    have e1 : binB Tryd.prog .add 9 (.string ⟨#[34]⟩) (.string (bs s)) = some (.string (bs (34 :: s))) := b_sadd (a := [34]) (by simp; omega)
    have e2 : binB Tryd.prog .add 9 (.string (bs (34 :: s))) (.string ⟨#[34]⟩) = some (.string (bs (34 :: (s ++ [34])))) := b_sadd (a := 34 :: s) (b := [34]) (by simp; omega)
    have e3 : binB Tryd.prog .add 9 (.string ⟨#[47]⟩) (.string (bs s)) = some (.string (bs (47 :: s))) := b_sadd (a := [47]) (by simp; omega)
    have e4 : binB Tryd.prog .add 9 (.string (bs (47 :: s))) (.string ⟨#[47]⟩) = some (.string (bs (47 :: (s ++ [47])))) := b_sadd (a := 47 :: s) (b := [47]) (by simp; omega)
    have e5 : binB Tryd.prog .add 9 (.string ⟨#[120, 61]⟩) (.string (bs s)) = some (.string (bs (120 :: 61 :: s))) := b_sadd (a := [120, 61]) (by simp; omega)
    have e6 : binB Tryd.prog .add 9 (.string (bs (120 :: 61 :: s))) (.string ⟨#[59, 35]⟩) = some (.string (bs (120 :: 61 :: (s ++ [59, 35])))) := b_sadd (a := 120 :: 61 :: s) (b := [59, 35]) (by simp; omega)
    have kf : Keep (all H) H (H.push ⟨STR (forms s), 1, true⟩) := push_keep
    have hf : Sl (all (H.push ⟨STR (forms s), 1, true⟩)) (H.push ⟨STR (forms s), 1, true⟩) 1 (.slice (some ⟨H.n, 0, none⟩) 4 4) 4 (STR (forms s)) := push_SlV (by simp [all, push_n]) rfl
    obtain ⟨t, t1, _⟩ := drop_at (l := forms s) (i := j) (show j < 4 by omega)
    have tl := forms_len (List.mem_of_getElem? t1) s2
    obtain ⟨pf, f1, f2⟩ := hf.at1 (i := j) (x := .string (bs t)) (by simp [STR, t1])
    have hpush : H.push ⟨[.string (bs s), .string (bs (34 :: (s ++ [34]))), .string (bs (47 :: (s ++ [47]))), .string (bs (120 :: 61 :: (s ++ [59, 35])))], 1, true⟩ = H.push ⟨STR (forms s), 1, true⟩ := rfl
    have hL1 := Box.up hL kf
    generalize hH1 : H.push ⟨STR (forms s), 1, true⟩ = H1 at *
    obtain ⟨H2, a1, a2⟩ := wordsMay_ok (s := t) (x1 := (i : Int) - 8) hL1 (by omega)
    have ei : IntKind.i64.wrap ((i : Int) - 8) = (i : Int) - 8 := wrap_i64 (by omega) (by omega)
    have hL2 := Box.up hL1 a2
    obtain ⟨o2, ⟨H3, b1, b2⟩, _⟩ := cut_str (l := t) hL2 (by omega)
    have hL3 := Box.up hL2 b2
    obtain ⟨o3, _, ⟨H4, c1, c2⟩⟩ := cut_str (l := t) hL3 (by omega)
    have hL4 := Box.up hL3 c2
    have e7 : binB Tryd.prog .add 9 (.string (bs t)) (.string ⟨#[32, 97]⟩) = some (.string (bs (t ++ [32, 97]))) := b_sadd (b := [32, 97]) (by simp; omega)
    obtain ⟨o4, ⟨H5, d1, d2⟩, _⟩ := cut_str (l := t ++ [32, 97]) hL4 (by simp; omega)
    have hL5 := Box.up hL4 d2
    have K5 : Keep (all H) H H5 := kf.tr (a2.tr (b2.tr (c2.tr d2)))
    obtain ⟨s'', p'', q1, q2, q3, q4⟩ := (hk.up K5).at (i := (i + 1) % ls.length) (Nat.mod_lt _ hl1)
    have e8 : binB Tryd.prog .add 9 (.string (bs t)) (.string (bs s'')) = some (.string (bs (t ++ s''))) := b_sadd (by omega)
    obtain ⟨o5, ⟨H6, g1, g2⟩, _⟩ := cut_str (l := t ++ s'') hL5 (by simp; omega)
    have hL6 := Box.up hL5 g2
    have K6 : Keep (all H0) H0 H6 := hK.trans ((K5.tr g2).of_all ((Rb.all H0).mono hK.1))
    obtain ⟨H', g⟩ := ih (j + 1) H6 (by omega) K6 hL6
    have hrem : binB Tryd.prog .rem 3 (.int .i64 ((i + 1 : Nat) : Int)) (.int .i64 (ls.length : Int)) = some (.int .i64 (((i + 1) % ls.length : Nat) : Int)) := by
      have hne : ¬ (ls.length : Int) = 0 := by omega
      simp only [binB, intB, if_neg hne, tmod_nat, if_true]
    have hlen : lenS v = some (.int .i64 (ls.length : Int)) := hk.1.lenS
    have hj4 : ((j : Int) < 4) = True := eq_true (by omega)
    refine ⟨H', ?_⟩
    refine Ev3.step (fun n m k => f9_L1.eq_2 _ _ _ _ _ _ _ _ _) ?_
    simp only [real_b, real_i, real_c, chk_t, bnd_some, bnd_up, iff_t, iff_f, gd_t, gd_f, wd_b, wd_u, pick_t, pick_f, b_lss, b_leq, b_gtr, b_geq, b_eql, b_neq, b_seql, b_sneq, b_add, b_sub, u_not, nilC_ptr, fAddr_ptr, Nat.zero_add, extr0, extr1, extr2, lenStr, decide_true, decide_false, bt_tt, bt_tf, bt_ft, bt_ff, bt_bne, Bool.not_true, Bool.not_false, Int.reduceBEq, Int.reduceBNe, extr30, extr31, hj4, s3, s4, e1, e2, e3, e4, e5, e6, forms_bld, hpush, f1, f2, ei]
    refine Ev3.callC a1 ?_
    simp only [real_b, real_i, real_c, chk_t, bnd_some, bnd_up, iff_t, iff_f, gd_t, gd_f, wd_b, wd_u, pick_t, pick_f, b_lss, b_leq, b_gtr, b_geq, b_eql, b_neq, b_seql, b_sneq, b_add, b_sub, u_not, nilC_ptr, fAddr_ptr, Nat.zero_add, extr0, extr1, extr2, lenStr, decide_true, decide_false, bt_tt, bt_tf, bt_ft, bt_ff, bt_bne, Bool.not_true, Bool.not_false, Int.reduceBEq, Int.reduceBNe, extr30, extr31, o2]
    refine Ev3.callC b1 ?_
    simp only [real_b, real_i, real_c, chk_t, bnd_some, bnd_up, iff_t, iff_f, gd_t, gd_f, wd_b, wd_u, pick_t, pick_f, b_lss, b_leq, b_gtr, b_geq, b_eql, b_neq, b_seql, b_sneq, b_add, b_sub, u_not, nilC_ptr, fAddr_ptr, Nat.zero_add, extr0, extr1, extr2, lenStr, decide_true, decide_false, bt_tt, bt_tf, bt_ft, bt_ff, bt_bne, Bool.not_true, Bool.not_false, Int.reduceBEq, Int.reduceBNe, extr30, extr31, o3]
    refine Ev3.callC c1 ?_
    simp only [real_b, real_i, real_c, chk_t, bnd_some, bnd_up, iff_t, iff_f, gd_t, gd_f, wd_b, wd_u, pick_t, pick_f, b_lss, b_leq, b_gtr, b_geq, b_eql, b_neq, b_seql, b_sneq, b_add, b_sub, u_not, nilC_ptr, fAddr_ptr, Nat.zero_add, extr0, extr1, extr2, lenStr, decide_true, decide_false, bt_tt, bt_tf, bt_ft, bt_ff, bt_bne, Bool.not_true, Bool.not_false, Int.reduceBEq, Int.reduceBNe, extr30, extr31, e7, o4]
    refine Ev3.callC d1 ?_
    simp only [real_b, real_i, real_c, chk_t, bnd_some, bnd_up, iff_t, iff_f, gd_t, gd_f, wd_b, wd_u, pick_t, pick_f, b_lss, b_leq, b_gtr, b_geq, b_eql, b_neq, b_seql, b_sneq, b_add, b_sub, u_not, nilC_ptr, fAddr_ptr, Nat.zero_add, extr0, extr1, extr2, lenStr, decide_true, decide_false, bt_tt, bt_tf, bt_ft, bt_ff, bt_bne, Bool.not_true, Bool.not_false, Int.reduceBEq, Int.reduceBNe, extr30, extr31, hup, hlen, hrem, q3, q4, e8, o5]
    refine Ev3.callC g1 ?_
    simp only [real_b, real_i, real_c, chk_t, bnd_some, bnd_up, iff_t, iff_f, gd_t, gd_f, wd_b, wd_u, pick_t, pick_f, b_lss, b_leq, b_gtr, b_geq, b_eql, b_neq, b_seql, b_sneq, b_add, b_sub, u_not, nilC_ptr, fAddr_ptr, Nat.zero_add, extr0, extr1, extr2, lenStr, decide_true, decide_false, bt_tt, bt_tf, bt_ft, bt_ff, bt_bne, Bool.not_true, Bool.not_false, Int.reduceBEq, Int.reduceBNe, extr30, extr31, idx_up (show j < 9223372036854775807 by omega)]
    exact g
/-! ### one byte -/
theorem cv_byte {i : Nat} (h : i < 256) {H : Heap} : cvI .u8 (.int .i64 (i : Int)) H = some (.int .u8 ((UInt8.ofNat i).toNat : Int), H) := by
  rw [cvI_u8]
  have e : (UInt8.ofNat i).toNat = i := by simp; omega
  rw [e]
  congr 3
  omega
theorem by3 {H : Heap} {a b c : Int} : bldS 1 3 [.int .u8 0] [(0, 1, .int .u8 a), (1, 1, .int .u8 b), (2, 1, .int .u8 c)] H = some (.slice (some ⟨H.n, 0, none⟩) 3 3, H.push ⟨[.int .u8 a, .int .u8 b, .int .u8 c], 1, true⟩) := by kernel_rfl
theorem cut_lit {H : Heap} {l : List UInt8} {cs : List Value} {n : Nat} (hc : cs = B (U l)) (hn : n = l.length) (hL : Lg H) (hb : l.length ≤ 100000) :
    ∃ H', Cl 3 [.slice (some ⟨H.n, 0, none⟩) n n] (H.push ⟨cs, 1, true⟩) (.bool true) H' ∧ Keep (all H) H H' := by
  subst hc; subst hn
  obtain ⟨_, ⟨H', h⟩, _⟩ := cut_str hL hb
  rw [U_len] at h
  exact ⟨H', h⟩
theorem cut_signs : ∀ (n a : Nat), (cutN a (List.replicate n 59)).1.length = n ∧ (cutN a (List.replicate n 59)).2 = none := by
  intro n
  induction n with
  | zero => intro a; simp [cut_nil]
  | succ n ih =>
    intro a
    have hw : wordN (59 :: List.replicate n 59) = (4, 1) := by simp [wordN, show wSign 59 = true from rfl]
    rw [List.replicate_succ, cut_word rfl (by decide) (by rw [hw]; decide), hw]
    obtain ⟨h1, h2⟩ := ih (a + 1)
    simp only [List.drop_succ_cons, List.drop_zero, List.length_cons, h1, h2]
    exact ⟨trivial, trivial⟩
theorem known_L2 {H0 : Heap} : ∀ (q i : Nat) (H : Heap), i + q = 256 → Lg H → ∃ H', Ev (fun n m => f9_L2 real (AC n) n m (.int .i64 (i : Int)) H) (.bool true, H') := by
  have hm : mostBytes = 140737488355328 := rfl
  intro q
  induction q with
  | zero =>
    intro i H hi hL
    obtain rfl : i = 256 := by omega
    have hmk : mkS 1 1 [.int .u8 0] (.int .i64 8193) (.int .i64 8193) H = some (.slice (some ⟨H.n, 0, none⟩) 8193 8193, H.push ⟨B (List.replicate 8193 0), 1, true⟩) := mkS_ok (N := 8193) (by omega)
    have hz : B (List.replicate 8193 0) = B (U (List.replicate 8193 0)) := by rw [U, List.map_replicate]; rfl
    have k1 : Keep (all H) H (H.push ⟨B (List.replicate 8193 0), 1, true⟩) := push_keep
    have s1 : SlU (all (H.push ⟨B (List.replicate 8193 0), 1, true⟩)) (H.push ⟨B (List.replicate 8193 0), 1, true⟩) (List.replicate 8193 0) (.slice (some ⟨H.n, 0, none⟩) 8193 8193) := by
      have h := push_U (H := H) (l := List.replicate 8193 0)
      rw [U_len, List.length_replicate, ← hz] at h
      exact h
    generalize H.push ⟨B (List.replicate 8193 0), 1, true⟩ = H1 at *
    have hL1 := Box.up hL k1
    obtain ⟨w, H2, a1, a2, a3⟩ := wcut_ok hL1 s1 (by rw [List.length_replicate]; decide)
    have e1 : cutR (List.replicate 8193 0) = ([], 0, 5) := by unfold cutR; rw [if_pos (by rw [List.length_replicate]; decide)]
    rw [e1] at a1
    have hL2 := Box.up hL1 a3
    have r := rep_ok (s := bs [59]) (c := 8192) (by omega) (by rw [bs_size]; decide) H2
    rw [bs_list] at r
    have er : Lib.repeatL [59] 8192 = List.replicate 8192 59 := by
      have h := Lib.repeatL_replicate 59 1 8192
      rw [Nat.mul_one] at h
      exact h
    rw [er] at r
    have hlen : (List.replicate 8192 (59 : UInt8)).length = 8192 := List.length_replicate
    obtain ⟨c1, c2⟩ := cut_signs 8192 0
    generalize List.replicate 8192 (59 : UInt8) = sg at *
    have o := ofStr_ok (l := sg) (H := H2) (by omega)
    have k2 : Keep (all H2) H2 (H2.push ⟨B (U sg), 1, true⟩) := push_keep
    obtain ⟨w2, H3, b1, b2, b3⟩ := wcut_ok (Box.up hL2 k2) (push_U (H := H2) (l := sg)) (by omega)
    rw [cutR_ok (by omega) c2] at b1 b2
    obtain ⟨H4, f1, f2⟩ := awake_ok (Box.up hL2 (k2.tr b3))
    have t : Tks (all H4) H4 (cutN 0 sg).1 w2 := Sl.up b2.sl f2
    have hl : lenS w2 = some (.int .i64 8192) := by rw [Sl.lenS t, c1]; rfl
    have r' : Cl 29 [.string ⟨#[59]⟩, .int .i64 8192] H2 (.string (bs sg)) H2 := r
    refine ⟨H4, ?_⟩
    refine Ev.step (fun n m => f9_L2.eq_2 _ _ _ _ _ _) ?_
    have e : (((256 : Nat) : Int) < 256) = False := by simp
    have e5 : ((5 : Int) == 5) = true := rfl
    have e6 : ((0 : Int) == 0) = true := rfl
    have e7 : ((8192 : Int) == 8192) = true := rfl
    simp only [real_b, real_i, real_c, chk_t, bnd_some, bnd_up, iff_t, iff_f, gd_t, gd_f, wd_b, wd_u, pick_t, pick_f, b_lss, b_leq, b_gtr, b_geq, b_eql, b_neq, b_seql, b_sneq, b_add, b_sub, u_not, nilC_ptr, fAddr_ptr, Nat.zero_add, extr0, extr1, extr2, lenStr, decide_true, decide_false, bt_tt, bt_tf, bt_ft, bt_ff, bt_bne, Bool.not_true, Bool.not_false, Int.reduceBEq, Int.reduceBNe, extr30, extr31, e, hmk]
    refine Ev.callC a1 ?_
    simp only [real_b, real_i, real_c, chk_t, bnd_some, bnd_up, iff_t, iff_f, gd_t, gd_f, wd_b, wd_u, pick_t, pick_f, b_lss, b_leq, b_gtr, b_geq, b_eql, b_neq, b_seql, b_sneq, b_add, b_sub, u_not, nilC_ptr, fAddr_ptr, Nat.zero_add, extr0, extr1, extr2, lenStr, decide_true, decide_false, bt_tt, bt_tf, bt_ft, bt_ff, bt_bne, Bool.not_true, Bool.not_false, Int.reduceBEq, Int.reduceBNe, extr30, extr31]
    refine Ev.callC r' ?_
    simp only [real_b, real_i, real_c, chk_t, bnd_some, bnd_up, iff_t, iff_f, gd_t, gd_f, wd_b, wd_u, pick_t, pick_f, b_lss, b_leq, b_gtr, b_geq, b_eql, b_neq, b_seql, b_sneq, b_add, b_sub, u_not, nilC_ptr, fAddr_ptr, Nat.zero_add, extr0, extr1, extr2, lenStr, decide_true, decide_false, bt_tt, bt_tf, bt_ft, bt_ff, bt_bne, Bool.not_true, Bool.not_false, Int.reduceBEq, Int.reduceBNe, extr30, extr31, o]
    refine Ev.callC b1 ?_
    simp only [real_b, real_i, real_c, chk_t, bnd_some, bnd_up, iff_t, iff_f, gd_t, gd_f, wd_b, wd_u, pick_t, pick_f, b_lss, b_leq, b_gtr, b_geq, b_eql, b_neq, b_seql, b_sneq, b_add, b_sub, u_not, nilC_ptr, fAddr_ptr, Nat.zero_add, extr0, extr1, extr2, lenStr, decide_true, decide_false, bt_tt, bt_tf, bt_ft, bt_ff, bt_bne, Bool.not_true, Bool.not_false, Int.reduceBEq, Int.reduceBNe, extr30, extr31]
    refine Ev.callC f1 ?_
    simp only [real_b, real_i, real_c, chk_t, bnd_some, bnd_up, iff_t, iff_f, gd_t, gd_f, wd_b, wd_u, pick_t, pick_f, b_lss, b_leq, b_gtr, b_geq, b_eql, b_neq, b_seql, b_sneq, b_add, b_sub, u_not, nilC_ptr, fAddr_ptr, Nat.zero_add, extr0, extr1, extr2, lenStr, decide_true, decide_false, bt_tt, bt_tf, bt_ft, bt_ff, bt_bne, Bool.not_true, Bool.not_false, Int.reduceBEq, Int.reduceBNe, extr30, extr31, e5, e6, hl, e7]
    exact Ev.pure _
  | succ q ih =>
    intro i H hi hL
    have hlt : ((i : Int) < 256) = True := eq_true (by omega)
    have cv : ∀ {H : Heap}, cvI .u8 (.int .i64 (i : Int)) H = some (.int .u8 ((UInt8.ofNat i).toNat : Int), H) := cv_byte (by omega)
    generalize UInt8.ofNat i = c at *
    obtain ⟨H1, a1, a2⟩ := cut_lit (l := [c]) (cs := [.int .u8 (c.toNat : Int)]) (n := 1) rfl rfl hL (by simp)
    have hL1 := Box.up hL a2
    obtain ⟨H2, b1, b2⟩ := cut_lit (l := [97, c, 98]) (cs := [.int .u8 97, .int .u8 (c.toNat : Int), .int .u8 98]) (n := 3) rfl rfl hL1 (by simp)
    have hL2 := Box.up hL1 b2
    obtain ⟨H3, c1, c2⟩ := cut_lit (l := [34, c, 34]) (cs := [.int .u8 34, .int .u8 (c.toNat : Int), .int .u8 34]) (n := 3) rfl rfl hL2 (by simp)
    have hL3 := Box.up hL2 c2
    obtain ⟨H4, d1, d2⟩ := cut_lit (l := [47, c, 47]) (cs := [.int .u8 47, .int .u8 (c.toNat : Int), .int .u8 47]) (n := 3) rfl rfl hL3 (by simp)
    have hL4 := Box.up hL3 d2
    have k5 : Keep (all H4) H4 (H4.push ⟨[.int .u8 (c.toNat : Int)], 1, true⟩) := push_keep
    have s5 : SlU (all (H4.push ⟨[.int .u8 (c.toNat : Int)], 1, true⟩)) (H4.push ⟨[.int .u8 (c.toNat : Int)], 1, true⟩) [c] (.slice (some ⟨H4.n, 0, none⟩) 1 1) := push_U (H := H4) (l := [c])
    obtain ⟨H6, f1, f2⟩ := wordsMay_ok (s := [c]) (x1 := (i : Int)) (Box.up hL4 k5) (by simp)
    obtain ⟨H', g⟩ := ih (i + 1) H6 (by omega) (Box.up hL4 (k5.tr f2))
    have ts := toStr_U s5
    refine ⟨H', ?_⟩
    refine Ev.step (fun n m => f9_L2.eq_2 _ _ _ _ _ _) ?_
    have bb : ∀ {H : Heap}, bldS 1 1 [.int .u8 0] [(0, 1, .int .u8 (c.toNat : Int))] H = some (.slice (some ⟨H.n, 0, none⟩) 1 1, H.push ⟨[.int .u8 (c.toNat : Int)], 1, true⟩) := bld1 rfl rfl
    simp only [real_b, real_i, real_c, chk_t, bnd_some, bnd_up, iff_t, iff_f, gd_t, gd_f, wd_b, wd_u, pick_t, pick_f, b_lss, b_leq, b_gtr, b_geq, b_eql, b_neq, b_seql, b_sneq, b_add, b_sub, u_not, nilC_ptr, fAddr_ptr, Nat.zero_add, extr0, extr1, extr2, lenStr, decide_true, decide_false, bt_tt, bt_tf, bt_ft, bt_ff, bt_bne, Bool.not_true, Bool.not_false, Int.reduceBEq, Int.reduceBNe, extr30, extr31, hlt, cv, bb]
    refine Ev.callC a1 ?_
    simp only [real_b, real_i, real_c, chk_t, bnd_some, bnd_up, iff_t, iff_f, gd_t, gd_f, wd_b, wd_u, pick_t, pick_f, b_lss, b_leq, b_gtr, b_geq, b_eql, b_neq, b_seql, b_sneq, b_add, b_sub, u_not, nilC_ptr, fAddr_ptr, Nat.zero_add, extr0, extr1, extr2, lenStr, decide_true, decide_false, bt_tt, bt_tf, bt_ft, bt_ff, bt_bne, Bool.not_true, Bool.not_false, Int.reduceBEq, Int.reduceBNe, extr30, extr31, cv, by3]
    refine Ev.callC b1 ?_
    simp only [real_b, real_i, real_c, chk_t, bnd_some, bnd_up, iff_t, iff_f, gd_t, gd_f, wd_b, wd_u, pick_t, pick_f, b_lss, b_leq, b_gtr, b_geq, b_eql, b_neq, b_seql, b_sneq, b_add, b_sub, u_not, nilC_ptr, fAddr_ptr, Nat.zero_add, extr0, extr1, extr2, lenStr, decide_true, decide_false, bt_tt, bt_tf, bt_ft, bt_ff, bt_bne, Bool.not_true, Bool.not_false, Int.reduceBEq, Int.reduceBNe, extr30, extr31, cv, by3]
    refine Ev.callC c1 ?_
    simp only [real_b, real_i, real_c, chk_t, bnd_some, bnd_up, iff_t, iff_f, gd_t, gd_f, wd_b, wd_u, pick_t, pick_f, b_lss, b_leq, b_gtr, b_geq, b_eql, b_neq, b_seql, b_sneq, b_add, b_sub, u_not, nilC_ptr, fAddr_ptr, Nat.zero_add, extr0, extr1, extr2, lenStr, decide_true, decide_false, bt_tt, bt_tf, bt_ft, bt_ff, bt_bne, Bool.not_true, Bool.not_false, Int.reduceBEq, Int.reduceBNe, extr30, extr31, cv, by3]
    refine Ev.callC d1 ?_
    simp only [real_b, real_i, real_c, chk_t, bnd_some, bnd_up, iff_t, iff_f, gd_t, gd_f, wd_b, wd_u, pick_t, pick_f, b_lss, b_leq, b_gtr, b_geq, b_eql, b_neq, b_seql, b_sneq, b_add, b_sub, u_not, nilC_ptr, fAddr_ptr, Nat.zero_add, extr0, extr1, extr2, lenStr, decide_true, decide_false, bt_tt, bt_tf, bt_ft, bt_ff, bt_bne, Bool.not_true, Bool.not_false, Int.reduceBEq, Int.reduceBNe, extr30, extr31, cv, bb, ts]
    refine Ev.callC f1 ?_
    simp only [real_b, real_i, real_c, chk_t, bnd_some, bnd_up, iff_t, iff_f, gd_t, gd_f, wd_b, wd_u, pick_t, pick_f, b_lss, b_leq, b_gtr, b_geq, b_eql, b_neq, b_seql, b_sneq, b_add, b_sub, u_not, nilC_ptr, fAddr_ptr, Nat.zero_add, extr0, extr1, extr2, lenStr, decide_true, decide_false, bt_tt, bt_tf, bt_ft, bt_ff, bt_bne, Bool.not_true, Bool.not_false, Int.reduceBEq, Int.reduceBNe, extr30, extr31, idx_up (show i < 9223372036854775807 by omega)]
    exact g
theorem known_L0 {H0 : Heap} {ls : List (List UInt8)} {v : Value} (hks : Ks H0 ls v) : ∀ (q i : Nat) (H : Heap), i + q = ls.length → Keep (all H0) H0 H → Lg H → ∃ H', Ev (fun n m => f9_L0 real (AC n) n m v (.int .i64 (i : Int)) H) (.bool true, H') := by
  intro q
  induction q with
  | zero =>
    intro i H hi hK hL
    obtain rfl : i = ls.length := by omega
    obtain ⟨H', g⟩ := known_L2 (H0 := H0) 256 0 H (by omega) hL
    have hlen : lenS v = some (.int .i64 (ls.length : Int)) := (hks.up hK).1.lenS
    refine ⟨H', ?_⟩
    refine Ev.step (fun n m => f9_L0.eq_2 _ _ _ _ _ _ _) ?_
    simp only [real_b, real_i, real_c, chk_t, bnd_some, bnd_up, iff_t, iff_f, gd_t, gd_f, wd_b, wd_u, pick_t, pick_f, b_lss, b_leq, b_gtr, b_geq, b_eql, b_neq, b_seql, b_sneq, b_add, b_sub, u_not, nilC_ptr, fAddr_ptr, Nat.zero_add, extr0, extr1, extr2, lenStr, decide_true, decide_false, bt_tt, bt_tf, bt_ft, bt_ff, bt_bne, Bool.not_true, Bool.not_false, Int.reduceBEq, Int.reduceBNe, extr30, extr31, hlen, idx_ge (Nat.le_refl ls.length)]
    exact g.loop
  | succ q ih =>
    intro i H hi hK hL
    obtain ⟨H', g⟩ := known_L1 (i := i) (by omega) hks (fun G k l => ih (i + 1) G (by omega) k l) 4 0 H (by omega) hK hL
    have hlen : lenS v = some (.int .i64 (ls.length : Int)) := (hks.up hK).1.lenS
    refine ⟨H', ?_⟩
    refine Ev.step (fun n m => f9_L0.eq_2 _ _ _ _ _ _ _) ?_
    simp only [real_b, real_i, real_c, chk_t, bnd_some, bnd_up, iff_t, iff_f, gd_t, gd_f, wd_b, wd_u, pick_t, pick_f, b_lss, b_leq, b_gtr, b_geq, b_eql, b_neq, b_seql, b_sneq, b_add, b_sub, u_not, nilC_ptr, fAddr_ptr, Nat.zero_add, extr0, extr1, extr2, lenStr, decide_true, decide_false, bt_tt, bt_tf, bt_ft, bt_ff, bt_bne, Bool.not_true, Bool.not_false, Int.reduceBEq, Int.reduceBNe, extr30, extr31, hlen, idx_lt (show i < ls.length by omega)]
    exact g.close
def KS (a b c d : List UInt8) : List (List UInt8) := [[], [97], [95], [57, 97], [97, 57, 95, 90], a, b, [105, 109, 112, 111, 114, 116], [105, 109, 112, 111, 114, 116, 115], [73, 109, 112, 111, 114, 116], [112, 114, 101, 99], [97, 32, 98], [195, 164], [97, 47, 98], [46, 46, 47, 120, 45, 121, 95, 122, 46, 57], [65], c, d,
  [97, 92, 47, 98], [97, 92, 92], [92], [97, 92], [47], [97, 10, 98], [92, 10], [92, 13], [97, 13, 98], [34], [91, 97, 45, 122, 93, 43, 124, 120, 42]]
theorem KS_bld {H : Heap} {a b c d : List UInt8} : bldS 1 29 [.string ⟨#[]⟩] [(0, 1, .string ⟨#[]⟩), (1, 1, .string ⟨#[97]⟩), (2, 1, .string ⟨#[95]⟩), (3, 1, .string ⟨#[57, 97]⟩), (4, 1, .string ⟨#[97, 57, 95, 90]⟩), (5, 1, .string (bs a)), (6, 1, .string (bs b)), (7, 1, .string ⟨#[105, 109, 112, 111, 114, 116]⟩), (8, 1, .string ⟨#[105, 109, 112, 111, 114, 116, 115]⟩), (9, 1, .string ⟨#[73, 109, 112, 111, 114, 116]⟩), (10, 1, .string ⟨#[112, 114, 101, 99]⟩), (11, 1, .string ⟨#[97, 32, 98]⟩), (12, 1, .string ⟨#[195, 164]⟩), (13, 1, .string ⟨#[97, 47, 98]⟩), (14, 1, .string ⟨#[46, 46, 47, 120, 45, 121, 95, 122, 46, 57]⟩), (15, 1, .string ⟨#[65]⟩), (16, 1, .string (bs c)), (17, 1, .string (bs d)), (18, 1, .string ⟨#[97, 92, 47, 98]⟩), (19, 1, .string ⟨#[97, 92, 92]⟩), (20, 1, .string ⟨#[92]⟩), (21, 1, .string ⟨#[97, 92]⟩), (22, 1, .string ⟨#[47]⟩), (23, 1, .string ⟨#[97, 10, 98]⟩), (24, 1, .string ⟨#[92, 10]⟩), (25, 1, .string ⟨#[92, 13]⟩), (26, 1, .string ⟨#[97, 13, 98]⟩), (27, 1, .string ⟨#[34]⟩), (28, 1, .string ⟨#[91, 97, 45, 122, 93, 43, 124, 120, 42]⟩)] H =
    some (.slice (some ⟨H.n, 0, none⟩) 29 29, H.push ⟨STR (KS a b c d), 1, true⟩) := by kernel_rfl
theorem wordsKnown_ok {H : Heap} (hL : Lg H) : ∃ H', Cl 9 [] H (.bool true) H' := by
  have r1 := rep_ok (s := bs [110]) (c := 25) (by omega) (by rw [bs_size]; decide) H
  have r2 := rep_ok (s := bs [112]) (c := 32) (by omega) (by rw [bs_size]; decide) H
  have r3 := rep_ok (s := bs [112]) (c := 33) (by omega) (by rw [bs_size]; decide) H
  rw [bs_list] at r1 r2 r3
  have h1 : (Lib.repeatL [110] 25).length = 25 := by rw [Lib.repeatL_length]; rfl
  have h2 : (Lib.repeatL [112] 32).length = 32 := by rw [Lib.repeatL_length]; rfl
  have h3 : (Lib.repeatL [112] 33).length = 33 := by rw [Lib.repeatL_length]; rfl
  generalize Lib.repeatL [110] 25 = a at *
  generalize Lib.repeatL [112] 32 = c at *
  generalize Lib.repeatL [112] 33 = d at *
  have e1 : slcStr (.string (bs a)) none (some (.int .i64 24)) = some (.string (bs (a.take 24))) := bs_upto (j := 24) (by omega)
  have hb : (a.take 24).length = 24 := by rw [List.length_take]; omega
  generalize a.take 24 = b at *
  have k1 : Keep (all H) H (H.push ⟨STR (KS a b c d), 1, true⟩) := push_keep
  have hks : Ks (H.push ⟨STR (KS a b c d), 1, true⟩) (KS a b c d) (.slice (some ⟨H.n, 0, none⟩) 29 29) := by
    refine ⟨push_SlV (by simp [all, push_n]) rfl, ?_, by simp [KS], by simp [KS]⟩
    intro l hl
    simp only [KS, List.mem_cons, List.not_mem_nil, or_false] at hl
    rcases hl with rfl | rfl | rfl | rfl | rfl | rfl | rfl | rfl | rfl | rfl | rfl | rfl | rfl | rfl | rfl | rfl | rfl | rfl | rfl | rfl | rfl | rfl | rfl | rfl | rfl | rfl | rfl | rfl | rfl <;> first | omega | decide
  obtain ⟨H', g⟩ := known_L0 hks 29 0 _ rfl (Keep.refl _ _) (Box.up hL k1)
  refine ⟨H', ?_⟩
  refine Ev.enter (fun n => f9_eq rfl n _) ?_
  simp only [f9, real_b, real_i, real_c, chk_t, bnd_some, bnd_up, iff_t, iff_f, gd_t, gd_f, wd_b, wd_u, pick_t, pick_f, b_lss, b_leq, b_gtr, b_geq, b_eql, b_neq, b_seql, b_sneq, b_add, b_sub, u_not, nilC_ptr, fAddr_ptr, Nat.zero_add, extr0, extr1, extr2, lenStr, decide_true, decide_false, bt_tt, bt_tf, bt_ft, bt_ff, bt_bne, Bool.not_true, Bool.not_false, Int.reduceBEq, Int.reduceBNe, extr30, extr31]
  refine Ev.callC r1 ?_
  simp only [real_b, real_i, real_c, chk_t, bnd_some, bnd_up, iff_t, iff_f, gd_t, gd_f, wd_b, wd_u, pick_t, pick_f, b_lss, b_leq, b_gtr, b_geq, b_eql, b_neq, b_seql, b_sneq, b_add, b_sub, u_not, nilC_ptr, fAddr_ptr, Nat.zero_add, extr0, extr1, extr2, lenStr, decide_true, decide_false, bt_tt, bt_tf, bt_ft, bt_ff, bt_bne, Bool.not_true, Bool.not_false, Int.reduceBEq, Int.reduceBNe, extr30, extr31, e1]
  refine Ev.callC r2 ?_
  refine Ev.callC r3 ?_
  simp only [real_b, real_i, real_c, chk_t, bnd_some, bnd_up, iff_t, iff_f, gd_t, gd_f, wd_b, wd_u, pick_t, pick_f, b_lss, b_leq, b_gtr, b_geq, b_eql, b_neq, b_seql, b_sneq, b_add, b_sub, u_not, nilC_ptr, fAddr_ptr, Nat.zero_add, extr0, extr1, extr2, lenStr, decide_true, decide_false, bt_tt, bt_tf, bt_ft, bt_ff, bt_bne, Bool.not_true, Bool.not_false, Int.reduceBEq, Int.reduceBNe, extr30, extr31, KS_bld]
  exact g.loop
end Go.Eng
