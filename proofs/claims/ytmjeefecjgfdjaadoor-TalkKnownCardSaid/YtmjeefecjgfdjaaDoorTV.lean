/- TalkKnown, the rest. -/
import Derived.Test.YtmjeefecjgfdjaaDoorTU
import Derived.Test.YtmjeefecjgfdjaaDoorTM
set_option linter.unusedVariables false
set_option linter.unusedSimpArgs false
namespace Go.Eng
open Go Go.Proofs

theorem acall_ext {P : Program} {gl : Bool} {E : Ext} {f : FuncId} {fn : Func} {g : List Value → Heap → Option (Value × Heap)} (hf : P.funcs[f]? = some fn) (hn : (fn.name == "runtime.NumGoroutine") = false) (hb : fn.body.isSome = true) (h : E f = some g) (n : Nat) (args : List Value) (H : Heap) : acall P gl E (n + 1) f args H = g args H := by
  obtain ⟨c, hc⟩ := Option.isSome_iff_exists.1 hb
  unfold acall
  rw [hf]
  simp only [hn, hc, h]
theorem rep_ok {s : ByteArray} {c : Nat} (hc : c ≤ 9223372036854775807) (hl : s.size * c ≤ 140737488355328) (H : Heap) : Cl 27 [.string s, .int .i64 (c : Int)] H (.string (bs (Lib.repeatL s.data.toList c))) H := by
  refine ⟨1, fun n m hn _ => ?_⟩
  obtain ⟨k, rfl⟩ : ∃ k, n = k + 1 := ⟨n - 1, by omega⟩
  refine (acall_ext Tryd.func27 (by kernel_rfl) (by kernel_rfl) (g := fun args H => match args with
    | [.string s, .int .i64 c] => if 0 ≤ c ∧ c ≤ 9223372036854775807 ∧ s.size * c.toNat ≤ 140737488355328 then some (.string (bs (Lib.repeatL s.data.toList c.toNat)), H) else none
    | _ => none) rfl k _ H).trans ?_
  simp only
  rw [if_pos ⟨by omega, by omega, hl⟩]
  rfl

/-! ### small slices -/
theorem cv8 {a : Nat} (h : a < 256) {H : Heap} : cvI .u8 (.int .i64 (a : Int)) H = some (.int .u8 (a : Int), H) := by
  rw [cvI_u8]
  congr 3
  omega
theorem q3 {a : Nat} {H : Heap} : bldS 1 3 [.int .u8 0] [(0, 1, .int .u8 (a : Int)), (1, 1, .int .u8 0), (2, 1, .int .u8 0)] H = some (.slice (some ⟨H.n, 0, none⟩) [a, 0, 0].length [a, 0, 0].length, H.push ⟨B [a, 0, 0], 1, true⟩) := by
  simp [bldS, rep, fillC, c_int, splice, newS, B]
  exact ⟨rfl, rfl⟩
theorem q4 {a : Nat} {H : Heap} : bldS 1 4 [.int .u8 0] [(0, 1, .int .u8 (a : Int)), (1, 1, .int .u8 1), (2, 1, .int .u8 97), (3, 1, .int .u8 0)] H = some (.slice (some ⟨H.n, 0, none⟩) [a, 1, 97, 0].length [a, 1, 97, 0].length, H.push ⟨B [a, 1, 97, 0], 1, true⟩) := by
  simp [bldS, rep, fillC, c_int, splice, newS, B]
  exact ⟨rfl, rfl, rfl, rfl⟩
theorem q5 {a : Nat} {H : Heap} : bldS 1 5 [.int .u8 0] [(0, 1, .int .u8 (a : Int)), (1, 1, .int .u8 1), (2, 1, .int .u8 0), (3, 1, .int .u8 0), (4, 1, .int .u8 0)] H = some (.slice (some ⟨H.n, 0, none⟩) [a, 1, 0, 0, 0].length [a, 1, 0, 0, 0].length, H.push ⟨B [a, 1, 0, 0, 0], 1, true⟩) := by
  simp [bldS, rep, fillC, c_int, splice, newS, B]
  exact ⟨rfl, rfl, rfl⟩
theorem q4' {a : Nat} {H : Heap} : bldS 1 4 [.int .u8 0] [(0, 1, .int .u8 1), (1, 1, .int .u8 1), (2, 1, .int .u8 (a : Int)), (3, 1, .int .u8 0)] H = some (.slice (some ⟨H.n, 0, none⟩) [1, 1, a, 0].length [1, 1, a, 0].length, H.push ⟨B [1, 1, a, 0], 1, true⟩) := by
  simp [bldS, rep, fillC, c_int, splice, newS, B]
  exact ⟨rfl, rfl, rfl⟩
theorem q5' {a : Nat} {H : Heap} : bldS 1 5 [.int .u8 0] [(0, 1, .int .u8 1), (1, 1, .int .u8 129), (2, 1, .int .u8 (a : Int)), (3, 1, .int .u8 97), (4, 1, .int .u8 0)] H = some (.slice (some ⟨H.n, 0, none⟩) [1, 129, a, 97, 0].length [1, 129, a, 97, 0].length, H.push ⟨B [1, 129, a, 97, 0], 1, true⟩) := by
  simp [bldS, rep, fillC, c_int, splice, newS, B]
  exact ⟨rfl, rfl, rfl, rfl, rfl⟩
theorem reads_of {H : Heap} {d : List Nat} (hd : ∀ c ∈ d, c < 256) (hm : d.length ≤ mostBytes) : ∃ H', Cl 5 [.slice (some ⟨H.n, 0, none⟩) d.length d.length] (H.push ⟨B d, 1, true⟩) (.bool true) H' := by
  obtain ⟨H', h, _⟩ := reads_law (H := H.push ⟨B d, 1, true⟩) (push_Sl (R := all _) (by simp [all, push_n])) hd hm
  exact ⟨H', h⟩
theorem known_L4 : ∀ (q a : Nat) (G : Heap), a + q = 256 → ∃ H', Ev (fun n m => f9_L4 real (AC n) n m (.int .i64 (a : Int)) G) (.bool true, H') := by
  have hmm : mostBytes = 140737488355328 := rfl
  intro q
  induction q with
  | zero =>
    intro a G ha
    obtain ⟨H', h, _⟩ := reads_law (H := G) (v := .slice none 0 0) (d := []) Sl.nil (by simp) (by simp)
    refine ⟨H', ?_⟩
    refine Ev.step (fun n m => f9_L4.eq_2 _ _ _ _ _ _) ?_
    have e : ((a : Int) < 256) = False := by simp; omega
    simp only [real_b, real_i, real_c, chk_t, bnd_some, bnd_up, iff_t, iff_f, gd_t, gd_f, wd_b, wd_u, pick_t, pick_f, b_lss, b_leq, b_gtr, b_geq, b_eql, b_neq, b_seql, b_sneq, b_add, b_sub, u_not, nilC_ptr, fAddr_ptr, Nat.zero_add, extr0, extr1, extr2, lenStr, decide_true, decide_false, bt_tt, bt_tf, bt_ft, bt_ff, bt_bne, Bool.not_true, Bool.not_false, Int.reduceBEq, Int.reduceBNe, extr30, extr31, e]
    refine Ev.callC (awake_ok _) ?_
    simp only [real_b, real_i, real_c, chk_t, bnd_some, bnd_up, iff_t, iff_f, gd_t, gd_f, wd_b, wd_u, pick_t, pick_f, b_lss, b_leq, b_gtr, b_geq, b_eql, b_neq, b_seql, b_sneq, b_add, b_sub, u_not, nilC_ptr, fAddr_ptr, Nat.zero_add, extr0, extr1, extr2, lenStr, decide_true, decide_false, bt_tt, bt_tf, bt_ft, bt_ff, bt_bne, Bool.not_true, Bool.not_false, Int.reduceBEq, Int.reduceBNe, extr30, extr31]
    refine Ev.callC h ?_
    exact Ev.pure _
  | succ q ih =>
    intro a G ha
    have e : ((a : Int) < 256) = True := by simp; omega
    have hb : ∀ {d : List Nat}, (∀ c ∈ d, c ≤ 255) → ∀ c ∈ d, c < 256 := fun h c hc => Nat.lt_succ_of_le (h c hc)
    obtain ⟨G1, r1⟩ := reads_of (H := G) (d := [a, 0, 0]) (hb (by simp; omega)) (by simp [hmm])
    obtain ⟨G2, r2⟩ := reads_of (H := G1) (d := [a, 1, 97, 0]) (hb (by simp; omega)) (by simp [hmm])
    obtain ⟨G3, r3⟩ := reads_of (H := G2) (d := [a, 1, 0, 0, 0]) (hb (by simp; omega)) (by simp [hmm])
    obtain ⟨G4, r4⟩ := reads_of (H := G3) (d := [1, 1, a, 0]) (hb (by simp; omega)) (by simp [hmm])
    obtain ⟨G5, r5⟩ := reads_of (H := G4) (d := [1, 129, a, 97, 0]) (hb (by simp; omega)) (by simp [hmm])
    obtain ⟨H', h⟩ := ih (a + 1) G5 (by omega)
    refine ⟨H', ?_⟩
    refine Ev.step (fun n m => f9_L4.eq_2 _ _ _ _ _ _) ?_
    have cv : ∀ {H : Heap}, cvI .u8 (.int .i64 (a : Int)) H = some (.int .u8 (a : Int), H) := cv8 (by omega)
    simp only [real_b, real_i, real_c, chk_t, bnd_some, bnd_up, iff_t, iff_f, gd_t, gd_f, wd_b, wd_u, pick_t, pick_f, b_lss, b_leq, b_gtr, b_geq, b_eql, b_neq, b_seql, b_sneq, b_add, b_sub, u_not, nilC_ptr, fAddr_ptr, Nat.zero_add, extr0, extr1, extr2, lenStr, decide_true, decide_false, bt_tt, bt_tf, bt_ft, bt_ff, bt_bne, Bool.not_true, Bool.not_false, Int.reduceBEq, Int.reduceBNe, extr30, extr31, e, cv, q3]
    refine Ev.callC r1 ?_
    simp only [real_b, real_i, real_c, chk_t, bnd_some, bnd_up, iff_t, iff_f, gd_t, gd_f, wd_b, wd_u, pick_t, pick_f, b_lss, b_leq, b_gtr, b_geq, b_eql, b_neq, b_seql, b_sneq, b_add, b_sub, u_not, nilC_ptr, fAddr_ptr, Nat.zero_add, extr0, extr1, extr2, lenStr, decide_true, decide_false, bt_tt, bt_tf, bt_ft, bt_ff, bt_bne, Bool.not_true, Bool.not_false, Int.reduceBEq, Int.reduceBNe, extr30, extr31, cv, q4]
    refine Ev.callC r2 ?_
    simp only [real_b, real_i, real_c, chk_t, bnd_some, bnd_up, iff_t, iff_f, gd_t, gd_f, wd_b, wd_u, pick_t, pick_f, b_lss, b_leq, b_gtr, b_geq, b_eql, b_neq, b_seql, b_sneq, b_add, b_sub, u_not, nilC_ptr, fAddr_ptr, Nat.zero_add, extr0, extr1, extr2, lenStr, decide_true, decide_false, bt_tt, bt_tf, bt_ft, bt_ff, bt_bne, Bool.not_true, Bool.not_false, Int.reduceBEq, Int.reduceBNe, extr30, extr31, cv, q5]
    refine Ev.callC r3 ?_
    simp only [real_b, real_i, real_c, chk_t, bnd_some, bnd_up, iff_t, iff_f, gd_t, gd_f, wd_b, wd_u, pick_t, pick_f, b_lss, b_leq, b_gtr, b_geq, b_eql, b_neq, b_seql, b_sneq, b_add, b_sub, u_not, nilC_ptr, fAddr_ptr, Nat.zero_add, extr0, extr1, extr2, lenStr, decide_true, decide_false, bt_tt, bt_tf, bt_ft, bt_ff, bt_bne, Bool.not_true, Bool.not_false, Int.reduceBEq, Int.reduceBNe, extr30, extr31, cv, q4']
    refine Ev.callC r4 ?_
    simp only [real_b, real_i, real_c, chk_t, bnd_some, bnd_up, iff_t, iff_f, gd_t, gd_f, wd_b, wd_u, pick_t, pick_f, b_lss, b_leq, b_gtr, b_geq, b_eql, b_neq, b_seql, b_sneq, b_add, b_sub, u_not, nilC_ptr, fAddr_ptr, Nat.zero_add, extr0, extr1, extr2, lenStr, decide_true, decide_false, bt_tt, bt_tf, bt_ft, bt_ff, bt_bne, Bool.not_true, Bool.not_false, Int.reduceBEq, Int.reduceBNe, extr30, extr31, cv, q5']
    refine Ev.callC r5 ?_
    simp only [real_b, real_i, real_c, chk_t, bnd_some, bnd_up, iff_t, iff_f, gd_t, gd_f, wd_b, wd_u, pick_t, pick_f, b_lss, b_leq, b_gtr, b_geq, b_eql, b_neq, b_seql, b_sneq, b_add, b_sub, u_not, nilC_ptr, fAddr_ptr, Nat.zero_add, extr0, extr1, extr2, lenStr, decide_true, decide_false, bt_tt, bt_tf, bt_ft, bt_ff, bt_bne, Bool.not_true, Bool.not_false, Int.reduceBEq, Int.reduceBNe, extr30, extr31, idx_up (show a < 9223372036854775807 by omega)]
    exact h

/-! ### nine replies -/
def c45 (wa wb : Value) (l : List UInt8) : List Value := [.int .i64 0, .int .i64 999, .int .i64 0, .string (bs []), nilS, .int .i64 0, .int .i64 1000, .int .i64 0, .string (bs []), nilS, .int .i64 0, .int .i64 (-1), .int .i64 0, .string (bs []), nilS,
  .int .i64 0, .int .i64 0, .int .i64 9007199254740991, .string (bs []), nilS, .int .i64 0, .int .i64 0, .int .i64 9007199254740992, .string (bs []), nilS, .int .i64 0, .int .i64 0, .int .i64 (-1), .string (bs []), nilS,
  .int .i64 0, .int .i64 0, .int .i64 0, .string (bs []), wa, .int .i64 0, .int .i64 0, .int .i64 0, .string (bs []), wb, .int .i64 0, .int .i64 0, .int .i64 0, .string (bs l), nilS]
theorem c45_at (wa wb : Value) (l : List UInt8) : ∀ i, i < 9 → ∃ e a l' w, cut (c45 wa wb l) (i * 5) 5 = [.int .i64 0, .int .i64 e, .int .i64 a, .string (bs l'), w] ∧ (l' = [] ∨ l' = l) ∧ (w = nilS ∨ w = wa ∨ w = wb)
  | 0, _ => ⟨_, _, _, _, rfl, .inl rfl, .inl rfl⟩
  | 1, _ => ⟨_, _, _, _, rfl, .inl rfl, .inl rfl⟩
  | 2, _ => ⟨_, _, _, _, rfl, .inl rfl, .inl rfl⟩
  | 3, _ => ⟨_, _, _, _, rfl, .inl rfl, .inl rfl⟩
  | 4, _ => ⟨_, _, _, _, rfl, .inl rfl, .inl rfl⟩
  | 5, _ => ⟨_, _, _, _, rfl, .inl rfl, .inl rfl⟩
  | 6, _ => ⟨_, _, _, _, rfl, .inl rfl, .inr (.inl rfl)⟩
  | 7, _ => ⟨_, _, _, _, rfl, .inl rfl, .inr (.inr rfl)⟩
  | 8, _ => ⟨_, _, _, _, rfl, .inr rfl, .inl rfl⟩
  | n + 9, h => absurd h (by omega)
theorem addr9 {b i : Nat} (h : i < 9) : iAddrS 5 (.slice (some ⟨b, 0, none⟩) 9 9) (.int .i64 (i : Int)) = some (ptr b (i * 5)) := by
  simp only [iAddrS]
  rw [if_pos (by omega)]
  simp
theorem known_L3 {wa wb : Value} {za zb : List Nat} {l : List UInt8} (hl : l.length ≤ 33) (ha : ∀ c ∈ za, c < 256) (hb : ∀ c ∈ zb, c < 256) (hal : za.length ≤ 262145) (hbl : zb.length ≤ 262145) {b : Nat} :
    ∀ (q i : Nat) (G : Heap), i + q = 9 → Box (all G) G b (c45 wa wb l) → By G za wa → By G zb wb → ∃ H', Ev (fun n m => f9_L3 real (AC n) n m (.slice (some ⟨b, 0, none⟩) 9 9) (.int .i64 (i : Int)) G) (.bool true, H') := by
  have hmm : mostBytes = 140737488355328 := rfl
  have lS : lenS (.slice (some ⟨b, 0, none⟩) 9 9) = some (.int .i64 ((9 : Nat) : Int)) := rfl
  intro q
  induction q with
  | zero =>
    intro i G hi hbx hwa hwb
    obtain ⟨H', h⟩ := known_L4 256 0 G (by omega)
    refine ⟨H', ?_⟩
    refine Ev.step (fun n m => f9_L3.eq_2 _ _ _ _ _ _ _) ?_
    simp only [real_b, real_i, real_c, chk_t, bnd_some, bnd_up, iff_t, iff_f, gd_t, gd_f, wd_b, wd_u, pick_t, pick_f, b_lss, b_leq, b_gtr, b_geq, b_eql, b_neq, b_seql, b_sneq, b_add, b_sub, u_not, nilC_ptr, fAddr_ptr, Nat.zero_add, extr0, extr1, extr2, lenStr, decide_true, decide_false, bt_tt, bt_tf, bt_ft, bt_ff, bt_bne, Bool.not_true, Bool.not_false, Int.reduceBEq, Int.reduceBNe, extr30, extr31, lS, idx_ge (show 9 ≤ i by omega)]
    exact h.loop
  | succ q ih =>
    intro i G hi hbx hwa hwb
    obtain ⟨e, a, l', w, hc, hl', hw⟩ := c45_at wa wb l i (by omega)
    have hlen : i * 5 + 5 ≤ (c45 wa wb l).length := by show i * 5 + 5 ≤ 45; omega
    have ld : ∀ {X : Heap}, Box (all X) X b (c45 wa wb l) → ldA 5 (ptr b (i * 5)) X = some (rpV 0 e a l' w, X) := fun h => by rw [h.ldA hlen, hc]
    have hll : l'.length ≤ 33 := by rcases hl' with rfl | rfl <;> simp [hl]
    obtain ⟨x, hx, hxb, hxl⟩ : ∃ x, By G x w ∧ (∀ c ∈ x, c < 256) ∧ x.length ≤ 262145 := by
      rcases hw with rfl | rfl | rfl
      · exact ⟨[], Sl.nil, by simp, by simp⟩
      · exact ⟨za, hwa, ha, hal⟩
      · exact ⟨zb, hwb, hb, hbl⟩
    obtain ⟨G1, a1, a2⟩ := answers_law (k := 0) (e := e) (a := a) (l := l') hx hxb (by omega)
    have b1 := (hbx.keep a2).mono (upA a2)
    obtain ⟨G2, c1, c2⟩ := back_law (H := G1) (k := 0) (l := []) (x := []) (w := nilS) (k' := 0) (e' := e) (a' := a) (l' := l') Sl.nil (by simp) (by simp) (hx.up a2) hxb
    obtain ⟨H', h⟩ := ih (i + 1) G2 (by omega) ((b1.keep c2).mono (upA c2)) ((hwa.up a2).up c2) ((hwb.up a2).up c2)
    refine ⟨H', ?_⟩
    refine Ev.step (fun n m => f9_L3.eq_2 _ _ _ _ _ _ _) ?_
    simp only [real_b, real_i, real_c, chk_t, bnd_some, bnd_up, iff_t, iff_f, gd_t, gd_f, wd_b, wd_u, pick_t, pick_f, b_lss, b_leq, b_gtr, b_geq, b_eql, b_neq, b_seql, b_sneq, b_add, b_sub, u_not, nilC_ptr, fAddr_ptr, Nat.zero_add, extr0, extr1, extr2, lenStr, decide_true, decide_false, bt_tt, bt_tf, bt_ft, bt_ff, bt_bne, Bool.not_true, Bool.not_false, Int.reduceBEq, Int.reduceBNe, extr30, extr31, lS, idx_lt (show i < 9 by omega), addr9 (show i < 9 by omega), ld hbx]
    refine Ev.callC a1 ?_
    simp only [real_b, real_i, real_c, chk_t, bnd_some, bnd_up, iff_t, iff_f, gd_t, gd_f, wd_b, wd_u, pick_t, pick_f, b_lss, b_leq, b_gtr, b_geq, b_eql, b_neq, b_seql, b_sneq, b_add, b_sub, u_not, nilC_ptr, fAddr_ptr, Nat.zero_add, extr0, extr1, extr2, lenStr, decide_true, decide_false, bt_tt, bt_tf, bt_ft, bt_ff, bt_bne, Bool.not_true, Bool.not_false, Int.reduceBEq, Int.reduceBNe, extr30, extr31, bld3z, addr9 (show i < 9 by omega), ld b1]
    refine Ev.callC c1 ?_
    simp only [real_b, real_i, real_c, chk_t, bnd_some, bnd_up, iff_t, iff_f, gd_t, gd_f, wd_b, wd_u, pick_t, pick_f, b_lss, b_leq, b_gtr, b_geq, b_eql, b_neq, b_seql, b_sneq, b_add, b_sub, u_not, nilC_ptr, fAddr_ptr, Nat.zero_add, extr0, extr1, extr2, lenStr, decide_true, decide_false, bt_tt, bt_tf, bt_ft, bt_ff, bt_bne, Bool.not_true, Bool.not_false, Int.reduceBEq, Int.reduceBNe, extr30, extr31, idx_up (show i < 9223372036854775807 by omega)]
    exact h
end Go.Eng
