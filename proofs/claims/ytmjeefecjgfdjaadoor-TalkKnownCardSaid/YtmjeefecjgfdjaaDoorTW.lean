/- TalkKnown holds. -/
import Derived.Test.YtmjeefecjgfdjaaDoorTV
set_option linter.unusedVariables false
set_option linter.unusedSimpArgs false
namespace Go.Eng
open Go Go.Proofs

theorem c_agg {cs : Array Value} : (Value.agg cs).cells = cs := rfl
theorem bldE {H : Heap} {e : Int} : bld [.int .i64 0, .int .i64 0, .int .i64 0, .string ⟨#[]⟩, .slice none 0 0] [(1, 1, .int .i64 e)] H = some (rpV 0 e 0 [] nilS, H) := by
  simp [bld, fillC, splice, c_int]; rfl
theorem bldT2 {H : Heap} {a : Int} : bld [.int .i64 0, .int .i64 0, .int .i64 0, .string ⟨#[]⟩, .slice none 0 0] [(2, 1, .int .i64 a)] H = some (rpV 0 0 a [] nilS, H) := by
  simp [bld, fillC, splice, c_int]; rfl
theorem bldN {H : Heap} {l : List UInt8} : bld [.int .i64 0, .int .i64 0, .int .i64 0, .string ⟨#[]⟩, .slice none 0 0] [(3, 1, .string (bs l))] H = some (rpV 0 0 0 l nilS, H) := by
  simp [bld, fillC, splice, c_str]
theorem bldD {H : Heap} {w : Value} (h : w.cells = #[w]) : bld [.int .i64 0, .int .i64 0, .int .i64 0, .string ⟨#[]⟩, .slice none 0 0] [(4, 1, w)] H = some (rpV 0 0 0 [] w, H) := by
  simp [bld, fillC, splice, h]; rfl
set_option maxRecDepth 100000 in
theorem lit45 {H : Heap} {wa wb : Value} {l : List UInt8} (ha : oneC wa = true) (hb : oneC wb = true) : bldS 5 9 [.int .i64 0, .int .i64 0, .int .i64 0, .string ⟨#[]⟩, .slice none 0 0] [(0, 5, rpV 0 999 0 [] nilS), (5, 5, rpV 0 1000 0 [] nilS), (10, 5, rpV 0 (-1) 0 [] nilS), (15, 5, rpV 0 0 9007199254740991 [] nilS), (20, 5, rpV 0 0 9007199254740992 [] nilS), (25, 5, rpV 0 0 (-1) [] nilS), (30, 5, rpV 0 0 0 [] wa), (35, 5, rpV 0 0 0 [] wb), (40, 5, rpV 0 0 0 l nilS)] H =
    some (.slice (some ⟨H.n, 0, none⟩) 9 9, H.push ⟨c45 wa wb l, 5, true⟩) := by
  have hall : (c45 wa wb l).all oneC = true := by
    simp [c45, ha, hb]
    repeat' constructor
  have e : fillC (rep 9 [.int .i64 0, .int .i64 0, .int .i64 0, .string ⟨#[]⟩, .slice none 0 0]) [(0, 5, rpV 0 999 0 [] nilS), (5, 5, rpV 0 1000 0 [] nilS), (10, 5, rpV 0 (-1) 0 [] nilS), (15, 5, rpV 0 0 9007199254740991 [] nilS), (20, 5, rpV 0 0 9007199254740992 [] nilS), (25, 5, rpV 0 0 (-1) [] nilS), (30, 5, rpV 0 0 0 [] wa), (35, 5, rpV 0 0 0 [] wb), (40, 5, rpV 0 0 0 l nilS)] = some (c45 wa wb l) := rfl
  simp only [bldS, e, newS, hall, if_true]
theorem rep_B : ∀ n, rep n [.int .u8 0] = B (List.replicate n 0)
  | 0 => rfl
  | n + 1 => by
    simp only [rep, List.replicate_succ, rep_B n]
    rfl
theorem mkS_ok {N : Nat} (h : N ≤ 140737488355328) {H : Heap} : mkS 1 1 [.int .u8 0] (.int .i64 (N : Int)) (.int .i64 (N : Int)) H = some (.slice (some ⟨H.n, 0, none⟩) N N, H.push ⟨B (List.replicate N 0), 1, true⟩) := by
  have hall : (B (List.replicate N 0)).all oneC = true := by
    rw [List.all_eq_true]
    intro v hv
    simp only [B, List.mem_map] at hv
    obtain ⟨_, _, rfl⟩ := hv
    rfl
  simp only [mkS]
  rw [if_pos ⟨by omega, by omega, by omega, rfl, by omega, by omega⟩, rep_B]
  simp only [newS, Int.toNat_natCast, hall, if_true]
theorem lit8 {H : Heap} {l l' : List UInt8} : bldS 1 8 [.string ⟨#[]⟩] [(0, 1, .string ⟨#[]⟩), (1, 1, .string ⟨#[97]⟩), (2, 1, .string ⟨#[97, 47, 98, 46, 99, 45, 100, 95, 57]⟩), (3, 1, .string ⟨#[65]⟩), (4, 1, .string (bs l)), (5, 1, .string (bs l')), (6, 1, .string ⟨#[97, 32, 98]⟩), (7, 1, .string ⟨#[195, 164]⟩)] H =
    some (.slice (some ⟨H.n, 0, none⟩) 8 8, H.push ⟨[[], [97], [97, 47, 98, 46, 99, 45, 100, 95, 57], [65], l, l', [97, 32, 98], [195, 164]].map (fun l => .string (bs l)), 1, true⟩) := by
  have e : fillC (rep 8 [.string ⟨#[]⟩]) [(0, 1, .string ⟨#[]⟩), (1, 1, .string ⟨#[97]⟩), (2, 1, .string ⟨#[97, 47, 98, 46, 99, 45, 100, 95, 57]⟩), (3, 1, .string ⟨#[65]⟩), (4, 1, .string (bs l)), (5, 1, .string (bs l')), (6, 1, .string ⟨#[97, 32, 98]⟩), (7, 1, .string ⟨#[195, 164]⟩)] = some ([[], [97], [97, 47, 98, 46, 99, 45, 100, 95, 57], [65], l, l', [97, 32, 98], [195, 164]].map (fun l => .string (bs l))) := rfl
  have hall : (([[], [97], [97, 47, 98, 46, 99, 45, 100, 95, 57], [65], l, l', [97, 32, 98], [195, 164]] : List (List UInt8)).map (fun l => Value.string (bs l))).all oneC = true := by
    simp only [List.all_map, List.all_eq_true]
    intro _ _; rfl
  simp only [bldS, e, newS, hall, if_true]

theorem known_L0 {x1 x2 : Value} {z : List Nat} {ls : List (List UInt8)} : ∀ (q : Nat) (G : Heap), q ≤ 11 → Kn G x1 x2 z ls → ∃ H', Ev (fun n m => f9_L0 real (AC n) n m x1 x2 (.int .i64 (10 - (q : Int))) G) (.bool true, H') := by
  intro q
  induction q with
  | zero =>
    intro G _ hk
    obtain ⟨w, w1, w2⟩ := By.upto hk.long (i := 262144) (by rw [hk.zl]; omega)
    have hone := w2.oneC
    have hone' := hk.long.oneC
    have k1 : Keep (all G) G (G.push ⟨c45 w x1 (Lib.repeatL [110] 33), 5, true⟩) := push_keep
    have hbx : Box (all (G.push ⟨c45 w x1 (Lib.repeatL [110] 33), 5, true⟩)) (G.push ⟨c45 w x1 (Lib.repeatL [110] 33), 5, true⟩) G.n (c45 w x1 (Lib.repeatL [110] 33)) := push_boxA
    have hrep := rep_ok (s := bs [110]) (c := 33) (by omega) (by rw [bs_size]; decide) G
    rw [bs_list] at hrep
    obtain ⟨H', h⟩ := known_L3 (l := Lib.repeatL [110] 33) (by rw [Lib.repeatL_length]; decide) (fun c hc => hk.zb c (List.mem_of_mem_take hc)) hk.zb (by simp; omega) (by rw [hk.zl]; omega) 9 0 _ (by omega) hbx (w2.up k1) (hk.long.up k1)
    refine ⟨H', ?_⟩
    refine Ev.step (fun n m => f9_L0.eq_2 _ _ _ _ _ _ _ _) ?_
    have e : ((10 : Int) - ((0 : Nat) : Int) < 10) = False := by simp
    have w1' : slcS 1 x1 none (some (.int .i64 262144)) none = some w := w1
    simp only [real_b, real_i, real_c, chk_t, bnd_some, bnd_up, iff_t, iff_f, gd_t, gd_f, wd_b, wd_u, pick_t, pick_f, b_lss, b_leq, b_gtr, b_geq, b_eql, b_neq, b_seql, b_sneq, b_add, b_sub, u_not, nilC_ptr, fAddr_ptr, Nat.zero_add, extr0, extr1, extr2, lenStr, decide_true, decide_false, bt_tt, bt_tf, bt_ft, bt_ff, bt_bne, Bool.not_true, Bool.not_false, Int.reduceBEq, Int.reduceBNe, extr30, extr31, e, bldE, bldT2, w1', bldD hone.2, bldD hone'.2]
    refine Ev.callC hrep ?_
    simp only [real_b, real_i, real_c, chk_t, bnd_some, bnd_up, iff_t, iff_f, gd_t, gd_f, wd_b, wd_u, pick_t, pick_f, b_lss, b_leq, b_gtr, b_geq, b_eql, b_neq, b_seql, b_sneq, b_add, b_sub, u_not, nilC_ptr, fAddr_ptr, Nat.zero_add, extr0, extr1, extr2, lenStr, decide_true, decide_false, bt_tt, bt_tf, bt_ft, bt_ff, bt_bne, Bool.not_true, Bool.not_false, Int.reduceBEq, Int.reduceBNe, extr30, extr31, bldN, lit45 hone.1 hone'.1]
    exact h.loop
  | succ q ih =>
    intro G hq hk
    obtain ⟨H', h⟩ := known_L1 (k := 10 - ((q + 1 : Nat) : Int)) hk (by omega) (fun G' hG' => by
      obtain ⟨H', h⟩ := ih G' (by omega) (hk.up hG')
      refine ⟨H', ?_⟩
      have e : (10 : Int) - ((q + 1 : Nat) : Int) + 1 = 10 - (q : Int) := by omega
      rw [e]; exact h) 8 0 G (by omega) (Keep.refl _ _)
    refine ⟨H', ?_⟩
    refine Ev.step (fun n m => f9_L0.eq_2 _ _ _ _ _ _ _ _) ?_
    have e : ((10 : Int) - ((q + 1 : Nat) : Int) < 10) = True := by simp; omega
    simp only [real_b, real_i, real_c, chk_t, bnd_some, bnd_up, iff_t, iff_f, gd_t, gd_f, wd_b, wd_u, pick_t, pick_f, b_lss, b_leq, b_gtr, b_geq, b_eql, b_neq, b_seql, b_sneq, b_add, b_sub, u_not, nilC_ptr, fAddr_ptr, Nat.zero_add, extr0, extr1, extr2, lenStr, decide_true, decide_false, bt_tt, bt_tf, bt_ft, bt_ff, bt_bne, Bool.not_true, Bool.not_false, Int.reduceBEq, Int.reduceBNe, extr30, extr31, e]
    exact Ev3.close h
theorem known_law (H : Heap) : ∃ H', Cl 9 [] H (.bool true) H' := by
  obtain ⟨z, hz⟩ : ∃ z, List.replicate 262145 0 = z := ⟨_, rfl⟩
  have hzl : z.length = 262145 := by rw [← hz]; exact List.length_replicate
  have hzb : ∀ c ∈ z, c < 256 := by
    rw [← hz]
    intro c hc
    have := (List.mem_replicate.1 hc).2
    omega
  have hmk := mkS_ok (N := 262145) (by omega) (H := H)
  rw [hz] at hmk
  have hmk' : mkS 1 1 [.int .u8 0] (.int .i64 262145) (.int .i64 262145) H = some (.slice (some ⟨H.n, 0, none⟩) z.length z.length, H.push ⟨B z, 1, true⟩) := by rw [hzl]; exact hmk
  have hlong : By (H.push ⟨B z, 1, true⟩) z (.slice (some ⟨H.n, 0, none⟩) z.length z.length) := push_Sl (by simp [all, push_n])
  generalize H.push ⟨B z, 1, true⟩ = H1 at *
  clear hz hmk
  have r1 := rep_ok (s := bs [112]) (c := 32) (by omega) (by rw [bs_size]; decide) H1
  have r2 := rep_ok (s := bs [112]) (c := 33) (by omega) (by rw [bs_size]; decide) H1
  rw [bs_list] at r1 r2
  have k1 : Keep (all H1) H1 (H1.push ⟨[[], [97], [97, 47, 98, 46, 99, 45, 100, 95, 57], [65], Lib.repeatL [112] 32, Lib.repeatL [112] 33, [97, 32, 98], [195, 164]].map (fun l => .string (bs l)), 1, true⟩) := push_keep
  have hK : Kn (H1.push ⟨[[], [97], [97, 47, 98, 46, 99, 45, 100, 95, 57], [65], Lib.repeatL [112] 32, Lib.repeatL [112] 33, [97, 32, 98], [195, 164]].map (fun l => .string (bs l)), 1, true⟩) (.slice (some ⟨H.n, 0, none⟩) z.length z.length) (.slice (some ⟨H1.n, 0, none⟩) 8 8) z [[], [97], [97, 47, 98, 46, 99, 45, 100, 95, 57], [65], Lib.repeatL [112] 32, Lib.repeatL [112] 33, [97, 32, 98], [195, 164]] := by
    refine ⟨hlong.up k1, hzl, hzb, .inr (.inr ⟨H1.n, 0, none, 8, _, rfl, by simp [all, push_n], push_self, by simp, by simp, by simp [cut]⟩), rfl, ?_⟩
    intro l hl
    have h1 := Lib.repeatL_length [112] 32
    have h2 := Lib.repeatL_length [112] 33
    simp only [List.mem_cons, List.not_mem_nil, or_false] at hl
    simp only [List.length_singleton] at h1 h2
    rcases hl with rfl | rfl | rfl | rfl | rfl | rfl | rfl | rfl <;> first | omega | decide
  obtain ⟨H', h⟩ := known_L0 11 _ (by omega) hK
  refine ⟨H', ?_⟩
  refine Ev.enter (fun n => f9_eq rfl n _) ?_
  simp only [f9, real_b, real_i, real_c, chk_t, bnd_some, bnd_up, iff_t, iff_f, gd_t, gd_f, wd_b, wd_u, pick_t, pick_f, b_lss, b_leq, b_gtr, b_geq, b_eql, b_neq, b_seql, b_sneq, b_add, b_sub, u_not, nilC_ptr, fAddr_ptr, Nat.zero_add, extr0, extr1, extr2, lenStr, decide_true, decide_false, bt_tt, bt_tf, bt_ft, bt_ff, bt_bne, Bool.not_true, Bool.not_false, Int.reduceBEq, Int.reduceBNe, extr30, extr31, hmk']
  refine Ev.callC r1 ?_
  refine Ev.callC r2 ?_
  simp only [real_b, real_i, real_c, chk_t, bnd_some, bnd_up, iff_t, iff_f, gd_t, gd_f, wd_b, wd_u, pick_t, pick_f, b_lss, b_leq, b_gtr, b_geq, b_eql, b_neq, b_seql, b_sneq, b_add, b_sub, u_not, nilC_ptr, fAddr_ptr, Nat.zero_add, extr0, extr1, extr2, lenStr, decide_true, decide_false, bt_tt, bt_tf, bt_ft, bt_ff, bt_bne, Bool.not_true, Bool.not_false, Int.reduceBEq, Int.reduceBNe, extr30, extr31, lit8]
  exact h.loop
end Go.Eng
