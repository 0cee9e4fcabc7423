/- Requests and replies written. -/
import Derived.Test.YtmjeefecjgfdjaaDoorTH
set_option linter.unusedVariables false
set_option linter.unusedSimpArgs false
namespace Go.Eng
open Go Go.Proofs

def U (l : List UInt8) : List Nat := l.map UInt8.toNat
theorem U_len (l : List UInt8) : (U l).length = l.length := by simp [U]
theorem U_byte (l : List UInt8) : ∀ x ∈ U l, x < 256 := fun x hx => by
  simp only [U, List.mem_map] at hx
  obtain ⟨c, _, rfl⟩ := hx
  exact c.toNat_lt
theorem ofStr_ok {l : List UInt8} {H : Heap} (h : l.length ≤ mostBytes) : ofStr (.string (bs l)) H = some (.slice (some ⟨H.n, 0, none⟩) (U l).length (U l).length, H.push ⟨B (U l), 1, true⟩) := by
  have e : ((bs l).data.toList.map fun c => Value.int .u8 (c.toNat : Int)) = B (U l) := by
    rw [bs_list]; simp [B, U]
  simp only [ofStr, bs_size, U_len]
  rw [if_pos h, e]
theorem push_Sl {R : Nat → Prop} {H : Heap} {d : List Nat} (hR : R H.n) : Sl R (H.push ⟨B d, 1, true⟩) 1 (.slice (some ⟨H.n, 0, none⟩) d.length d.length) d.length (B d) :=
  .inr (.inr ⟨H.n, 0, none, d.length, _, rfl, hR, push_self, by simp [B_length], by simp, by simp only [cut, List.drop_zero, Nat.mul_one]; rw [List.take_of_length_le (by simp [B])]⟩)
theorem push_SlI {R : Nat → Prop} {H : Heap} {d : List Int} (hR : R H.n) : Sl R (H.push ⟨I d, 1, true⟩) 1 (.slice (some ⟨H.n, 0, none⟩) d.length d.length) d.length (I d) :=
  .inr (.inr ⟨H.n, 0, none, d.length, _, rfl, hR, push_self, by simp [I], by simp, by simp only [cut, List.drop_zero, Nat.mul_one]; rw [List.take_of_length_le (by simp [I])]⟩)
theorem push_two {R : Nat → Prop} {H : Heap} {a b : Value} (hR : R H.n) : Sl R (H.push ⟨[a, b], 1, true⟩) 1 (.slice (some ⟨H.n, 0, none⟩) 2 2) 2 [a, b] :=
  .inr (.inr ⟨H.n, 0, none, 2, _, rfl, hR, push_self, by simp, by simp, by simp [cut]⟩)
theorem bld3 {H : Heap} {a b c : Int} {z : Value} : bldS 1 3 [z] [(0, 1, .int .i64 a), (1, 1, .int .i64 b), (2, 1, .int .i64 c)] H = some (.slice (some ⟨H.n, 0, none⟩) [a, b, c].length [a, b, c].length, H.push ⟨I [a, b, c], 1, true⟩) := by
  simp [bldS, rep, fillC, Value.cells, splice, newS, I]
  exact ⟨rfl, rfl, rfl⟩

/-- What is written. -/
def wrA (k : Int) (l : List UInt8) (x : List Nat) : List Nat := nbs [k] ++ tbs [U l, x]
def wrB (k e a : Int) (l : List UInt8) (x : List Nat) : List Nat := nbs [k, e, a] ++ tbs [U l, x]
def askP (k : Int) (l : List UInt8) (x : List Nat) : List Nat := if ckA k l x.length = 0 then wrA k l x else []
def ansP (k e a : Int) (l : List UInt8) (x : List Nat) : List Nat := if ckB k e a l x.length = 0 then wrB k e a l x else []
theorem ckA_ok {k : Int} {l : List UInt8} {n : Nat} (h : ckA k l n = 0) : 1 ≤ k ∧ k ≤ 7 ∧ l.length ≤ 32 ∧ n ≤ 8192 ∧ (isP l = true ∨ l = []) := by
  unfold ckA at h
  by_cases h1 : 8192 < n
  · rw [if_pos h1] at h; exact absurd h (by decide)
  rw [if_neg h1] at h
  generalize hA : (if k = 6 ∨ k = 7 then decide (l = []) else isP l) = A at h
  generalize hB : (if k = 1 ∨ k = 5 then true else if 2 ≤ k ∧ k ≤ 7 then decide (n = 0) else false) = C at h
  by_cases h2 : (A && C) = true
  · rw [Bool.and_eq_true] at h2
    have hp : isP l = true → l.length ≤ 32 := fun hp => by
      simp only [isP, Bool.and_eq_true, decide_eq_true_eq] at hp; exact hp.1.2
    have hl : (isP l = true ∨ l = []) := by
      by_cases hk : k = 6 ∨ k = 7
      · rw [if_pos hk, h2.1] at hA; exact .inr (by simpa using hA)
      · rw [if_neg hk, h2.1] at hA; exact .inl hA
    have hk : 1 ≤ k ∧ k ≤ 7 := by
      by_cases hk : k = 1 ∨ k = 5
      · omega
      · rw [if_neg hk] at hB
        by_cases hk' : 2 ≤ k ∧ k ≤ 7
        · omega
        · rw [if_neg hk', h2.2] at hB; cases hB
    refine ⟨hk.1, hk.2, ?_, by omega, hl⟩
    rcases hl with hl | rfl
    · exact hp hl
    · simp
  · rw [if_neg h2] at h; exact absurd h (by decide)
theorem ckB_ok {k e a : Int} {l : List UInt8} {n : Nat} (h : ckB k e a l n = 0) : 0 ≤ k ∧ k ≤ 7 ∧ 0 ≤ e ∧ e ≤ 999 ∧ 0 ≤ a ∧ a ≤ 9007199254740991 ∧ l.length ≤ 32 ∧ n ≤ 262144 := by
  unfold ckB at h
  split at h
  · cases h
  · split at h
    · cases h
    · omega
theorem tbs_len (l : List UInt8) (x : List Nat) : (tbs [U l, x]).length ≤ l.length + x.length + 18 := by
  have h1 := tb_len (U l)
  have h2 := tb_len x
  rw [U_len] at h1
  simp only [tbs, List.flatMap_cons, List.flatMap_nil, List.append_nil, List.length_append]
  omega

theorem ask_ok {H : Heap} {k : Int} {l : List UInt8} {w : Value} {x : List Nat} (hw : By H x w) (hl : l.length < 9223372036854775807) :
    ∃ v H', Cl 11 [rqV k l w] H (.tuple #[v, .int .i64 (ckA k l x.length)]) H' ∧ Acc (all H) H' 1 v (askP k l x).length (B (askP k l x)) ∧ Keep (all H) H H' := by
  have hm : mostBytes = 140737488355328 := rfl
  have k1 : Keep (all H) H (H.push ⟨[.int .i64 k, .string (bs l), w], 1, true⟩) := push_keep
  have hb : Box (all (H.push ⟨[.int .i64 k, .string (bs l), w], 1, true⟩)) (H.push ⟨[.int .i64 k, .string (bs l), w], 1, true⟩) H.n [.int .i64 k, .string (bs l), w] := push_boxA
  generalize hH1 : H.push ⟨[.int .i64 k, .string (bs l), w], 1, true⟩ = H1 at *
  obtain ⟨H2, c1, c2⟩ := ask_may (k := k) (l := l) (hw.up k1) hl
  have hb2 := (hb.keep c2).mono (upA c2)
  have hw2 := (hw.up k1).up c2
  by_cases h0 : ckA k l x.length = 0
  · have hok := ckA_ok h0
    have hP : askP k l x = wrA k l x := by simp [askP, h0]
    have hln := tbs_len l x
    have hnl := nbs_len [k]
    simp only [List.length_singleton] at hnl
    have k3 : Keep (all H2) H2 (H2.push ⟨I [k], 1, true⟩) := push_keep
    obtain ⟨u, H4, n1, n2, n3⟩ := nums_ok (xs := [k]) (push_SlI (H := H2) (R := all (H2.push ⟨I [k], 1, true⟩)) (by simp [all, push_n])) (by simp [hm])
    have hb4 := (hb2.keep k3).mono (upA k3)
    have hb4' := (hb4.keep n3).mono (upA n3)
    have k5 : Keep (all H4) H4 (H4.push ⟨B (U l), 1, true⟩) := push_keep
    have hb5 := (hb4'.keep k5).mono (upA k5)
    have hw5 : By (H4.push ⟨B (U l), 1, true⟩) x w := ((hw2.up k3).up n3).up k5
    have hp5 : By (H4.push ⟨B (U l), 1, true⟩) (U l) (.slice (some ⟨H4.n, 0, none⟩) (U l).length (U l).length) := push_Sl (by simp [all, push_n])
    have k6 : Keep (all (H4.push ⟨B (U l), 1, true⟩)) (H4.push ⟨B (U l), 1, true⟩) ((H4.push ⟨B (U l), 1, true⟩).push ⟨[.slice (some ⟨H4.n, 0, none⟩) (U l).length (U l).length, w], 1, true⟩) := push_keep
    have hbl : bldS 1 2 [.slice none 0 0] [(0, 1, .slice (some ⟨H4.n, 0, none⟩) (U l).length (U l).length), (1, 1, w)] (H4.push ⟨B (U l), 1, true⟩) = some (.slice (some ⟨(H4.push ⟨B (U l), 1, true⟩).n, 0, none⟩) 2 2, (H4.push ⟨B (U l), 1, true⟩).push ⟨[.slice (some ⟨H4.n, 0, none⟩) (U l).length (U l).length, w], 1, true⟩) := bld2 rfl rfl hw.oneC.1 hw.oneC.2
    obtain ⟨v, H7, t1, t2, t3⟩ := texts_ok (ds := [U l, x]) (c := nbs [k]) (by simp) (by
        intro d hd
        rcases List.mem_cons.1 hd with rfl | hd
        · rw [U_len]; omega
        · rcases List.mem_cons.1 hd with rfl | hd
          · omega
          · cases hd) (by omega) (by simp)
      (push_two (H := H4.push ⟨B (U l), 1, true⟩) (R := all _) (by simp [all, push_n])) (PS.two (hp5.up k6) (hw5.up k6)) ((n2.sl.up k5).up k6)
    have hK : Keep (all H) H H7 := k1.tr (c2.tr (k3.tr (n3.tr (k5.tr (k6.tr t3)))))
    refine ⟨v, H7, ?_, ?_, hK⟩
    · rw [h0]
      refine Ev.enter (fun n => f11_eq rfl n _ _) ?_
      simp only [f11, real_b, real_i, real_c, chk_t, bnd_some, bnd_up, iff_t, iff_f, gd_t, gd_f, wd_b, wd_u, pick_t, pick_f, b_lss, b_leq, b_gtr, b_geq, b_eql, b_neq, b_seql, b_sneq, b_add, b_sub, u_not, nilC_ptr, fAddr_ptr, Nat.zero_add, extr0, extr1, extr2, lenStr, decide_true, decide_false, bt_tt, bt_tf, bt_ft, bt_ff, bt_bne, Bool.not_true, Bool.not_false, Int.reduceBEq, Int.reduceBNe, extr30, extr31, rq_new hw.oneC, hH1, hb.all (n := 3) rfl]
      refine Ev.callC c1 ?_
      rw [h0]
      simp only [real_b, real_i, real_c, chk_t, bnd_some, bnd_up, iff_t, iff_f, gd_t, gd_f, wd_b, wd_u, pick_t, pick_f, b_lss, b_leq, b_gtr, b_geq, b_eql, b_neq, b_seql, b_sneq, b_add, b_sub, u_not, nilC_ptr, fAddr_ptr, Nat.zero_add, extr0, extr1, extr2, lenStr, decide_true, decide_false, bt_tt, bt_tf, bt_ft, bt_ff, bt_bne, Bool.not_true, Bool.not_false, Int.reduceBEq, Int.reduceBNe, extr30, extr31, hb2.ld (k := 0) (v := .int .i64 k) rfl, lit1]
      refine Ev.callC n1 ?_
      simp only [real_b, real_i, real_c, chk_t, bnd_some, bnd_up, iff_t, iff_f, gd_t, gd_f, wd_b, wd_u, pick_t, pick_f, b_lss, b_leq, b_gtr, b_geq, b_eql, b_neq, b_seql, b_sneq, b_add, b_sub, u_not, nilC_ptr, fAddr_ptr, Nat.zero_add, extr0, extr1, extr2, lenStr, decide_true, decide_false, bt_tt, bt_tf, bt_ft, bt_ff, bt_bne, Bool.not_true, Bool.not_false, Int.reduceBEq, Int.reduceBNe, extr30, extr31, hb4.blk n3, Bool.and_true, hb4'.ld (k := 1) (v := .string (bs l)) rfl, ofStr_ok (show l.length ≤ mostBytes by omega), hb5.ld (k := 2) (v := w) rfl, hbl]
      refine Ev.callC t1 ?_
      exact Ev.pure _
    · rw [hP]
      exact t2.low (fun b hb => upA k6 b (upA k5 b (upA n3 b (upA k3 b (upA c2 b (upA k1 b hb))))))
  · have hP : askP k l x = [] := by simp [askP, h0]
    rw [hP]
    refine ⟨nilS, H2, ?_, Acc.nil, k1.tr c2⟩
    refine Ev.enter (fun n => f11_eq rfl n _ _) ?_
    simp only [f11, real_b, real_i, real_c, chk_t, bnd_some, bnd_up, iff_t, iff_f, gd_t, gd_f, wd_b, wd_u, pick_t, pick_f, b_lss, b_leq, b_gtr, b_geq, b_eql, b_neq, b_seql, b_sneq, b_add, b_sub, u_not, nilC_ptr, fAddr_ptr, Nat.zero_add, extr0, extr1, extr2, lenStr, decide_true, decide_false, bt_tt, bt_tf, bt_ft, bt_ff, bt_bne, Bool.not_true, Bool.not_false, Int.reduceBEq, Int.reduceBNe, extr30, extr31, rq_new hw.oneC, hH1, hb.all (n := 3) rfl]
    refine Ev.callC c1 ?_
    have e : (ckA k l x.length != 0) = true := by simpa using h0
    simp only [real_b, real_i, real_c, chk_t, bnd_some, bnd_up, iff_t, iff_f, gd_t, gd_f, wd_b, wd_u, pick_t, pick_f, b_lss, b_leq, b_gtr, b_geq, b_eql, b_neq, b_seql, b_sneq, b_add, b_sub, u_not, nilC_ptr, fAddr_ptr, Nat.zero_add, extr0, extr1, extr2, lenStr, decide_true, decide_false, bt_tt, bt_tf, bt_ft, bt_ff, bt_bne, Bool.not_true, Bool.not_false, Int.reduceBEq, Int.reduceBNe, extr30, extr31, e]
    exact Ev.pure _
theorem ans_ok {H : Heap} {k e a : Int} {l : List UInt8} {w : Value} {x : List Nat} (hw : By H x w) :
    ∃ v H', Cl 18 [rpV k e a l w] H (.tuple #[v, .int .i64 (ckB k e a l x.length)]) H' ∧ Acc (all H) H' 1 v (ansP k e a l x).length (B (ansP k e a l x)) ∧ Keep (all H) H H' := by
  have hm : mostBytes = 140737488355328 := rfl
  have k1 : Keep (all H) H (H.push ⟨[.int .i64 k, .int .i64 e, .int .i64 a, .string (bs l), w], 1, true⟩) := push_keep
  have hb : Box (all (H.push ⟨[.int .i64 k, .int .i64 e, .int .i64 a, .string (bs l), w], 1, true⟩)) (H.push ⟨[.int .i64 k, .int .i64 e, .int .i64 a, .string (bs l), w], 1, true⟩) H.n [.int .i64 k, .int .i64 e, .int .i64 a, .string (bs l), w] := push_boxA
  generalize hH1 : H.push ⟨[.int .i64 k, .int .i64 e, .int .i64 a, .string (bs l), w], 1, true⟩ = H1 at *
  obtain ⟨H2, c1, c2⟩ := ans_may (k := k) (e := e) (a := a) (l := l) (hw.up k1)
  have hb2 := (hb.keep c2).mono (upA c2)
  have hw2 := (hw.up k1).up c2
  by_cases h0 : ckB k e a l x.length = 0
  · have hok := ckB_ok h0
    have hP : ansP k e a l x = wrB k e a l x := by simp [ansP, h0]
    have hln := tbs_len l x
    have hnl := nbs_len [k, e, a]
    simp only [List.length_cons, List.length_nil] at hnl
    have k3 : Keep (all H2) H2 (H2.push ⟨I [k, e, a], 1, true⟩) := push_keep
    obtain ⟨u, H4, n1, n2, n3⟩ := nums_ok (xs := [k, e, a]) (push_SlI (H := H2) (R := all (H2.push ⟨I [k, e, a], 1, true⟩)) (by simp [all, push_n])) (by simp [hm])
    have hb4 := (hb2.keep k3).mono (upA k3)
    have hb4' := (hb4.keep n3).mono (upA n3)
    have k5 : Keep (all H4) H4 (H4.push ⟨B (U l), 1, true⟩) := push_keep
    have hb5 := (hb4'.keep k5).mono (upA k5)
    have hw5 : By (H4.push ⟨B (U l), 1, true⟩) x w := ((hw2.up k3).up n3).up k5
    have hp5 : By (H4.push ⟨B (U l), 1, true⟩) (U l) (.slice (some ⟨H4.n, 0, none⟩) (U l).length (U l).length) := push_Sl (by simp [all, push_n])
    have k6 : Keep (all (H4.push ⟨B (U l), 1, true⟩)) (H4.push ⟨B (U l), 1, true⟩) ((H4.push ⟨B (U l), 1, true⟩).push ⟨[.slice (some ⟨H4.n, 0, none⟩) (U l).length (U l).length, w], 1, true⟩) := push_keep
    have hbl : bldS 1 2 [.slice none 0 0] [(0, 1, .slice (some ⟨H4.n, 0, none⟩) (U l).length (U l).length), (1, 1, w)] (H4.push ⟨B (U l), 1, true⟩) = some (.slice (some ⟨(H4.push ⟨B (U l), 1, true⟩).n, 0, none⟩) 2 2, (H4.push ⟨B (U l), 1, true⟩).push ⟨[.slice (some ⟨H4.n, 0, none⟩) (U l).length (U l).length, w], 1, true⟩) := bld2 rfl rfl hw.oneC.1 hw.oneC.2
    obtain ⟨v, H7, t1, t2, t3⟩ := texts_ok (ds := [U l, x]) (c := nbs [k, e, a]) (by simp) (by
        intro d hd
        rcases List.mem_cons.1 hd with rfl | hd
        · rw [U_len]; omega
        · rcases List.mem_cons.1 hd with rfl | hd
          · omega
          · cases hd) (by omega) (by simp)
      (push_two (H := H4.push ⟨B (U l), 1, true⟩) (R := all _) (by simp [all, push_n])) (PS.two (hp5.up k6) (hw5.up k6)) ((n2.sl.up k5).up k6)
    have hK : Keep (all H) H H7 := k1.tr (c2.tr (k3.tr (n3.tr (k5.tr (k6.tr t3)))))
    refine ⟨v, H7, ?_, ?_, hK⟩
    · rw [h0]
      refine Ev.enter (fun n => f18_eq rfl n _ _) ?_
      simp only [f18, real_b, real_i, real_c, chk_t, bnd_some, bnd_up, iff_t, iff_f, gd_t, gd_f, wd_b, wd_u, pick_t, pick_f, b_lss, b_leq, b_gtr, b_geq, b_eql, b_neq, b_seql, b_sneq, b_add, b_sub, u_not, nilC_ptr, fAddr_ptr, Nat.zero_add, extr0, extr1, extr2, lenStr, decide_true, decide_false, bt_tt, bt_tf, bt_ft, bt_ff, bt_bne, Bool.not_true, Bool.not_false, Int.reduceBEq, Int.reduceBNe, extr30, extr31, rp_new hw.oneC, hH1, hb.all (n := 5) rfl]
      refine Ev.callC c1 ?_
      rw [h0]
      simp only [real_b, real_i, real_c, chk_t, bnd_some, bnd_up, iff_t, iff_f, gd_t, gd_f, wd_b, wd_u, pick_t, pick_f, b_lss, b_leq, b_gtr, b_geq, b_eql, b_neq, b_seql, b_sneq, b_add, b_sub, u_not, nilC_ptr, fAddr_ptr, Nat.zero_add, extr0, extr1, extr2, lenStr, decide_true, decide_false, bt_tt, bt_tf, bt_ft, bt_ff, bt_bne, Bool.not_true, Bool.not_false, Int.reduceBEq, Int.reduceBNe, extr30, extr31, hb2.ld (k := 0) (v := .int .i64 k) rfl, hb2.ld (k := 1) (v := .int .i64 e) rfl, hb2.ld (k := 2) (v := .int .i64 a) rfl, bld3]
      refine Ev.callC n1 ?_
      simp only [real_b, real_i, real_c, chk_t, bnd_some, bnd_up, iff_t, iff_f, gd_t, gd_f, wd_b, wd_u, pick_t, pick_f, b_lss, b_leq, b_gtr, b_geq, b_eql, b_neq, b_seql, b_sneq, b_add, b_sub, u_not, nilC_ptr, fAddr_ptr, Nat.zero_add, extr0, extr1, extr2, lenStr, decide_true, decide_false, bt_tt, bt_tf, bt_ft, bt_ff, bt_bne, Bool.not_true, Bool.not_false, Int.reduceBEq, Int.reduceBNe, extr30, extr31, hb4.blk n3, Bool.and_true, hb4'.ld (k := 3) (v := .string (bs l)) rfl, ofStr_ok (show l.length ≤ mostBytes by omega), hb5.ld (k := 4) (v := w) rfl, hbl]
      refine Ev.callC t1 ?_
      exact Ev.pure _
    · rw [hP]
      exact t2.low (fun b hb => upA k6 b (upA k5 b (upA n3 b (upA k3 b (upA c2 b (upA k1 b hb))))))
  · have hP : ansP k e a l x = [] := by simp [ansP, h0]
    rw [hP]
    refine ⟨nilS, H2, ?_, Acc.nil, k1.tr c2⟩
    refine Ev.enter (fun n => f18_eq rfl n _ _) ?_
    simp only [f18, real_b, real_i, real_c, chk_t, bnd_some, bnd_up, iff_t, iff_f, gd_t, gd_f, wd_b, wd_u, pick_t, pick_f, b_lss, b_leq, b_gtr, b_geq, b_eql, b_neq, b_seql, b_sneq, b_add, b_sub, u_not, nilC_ptr, fAddr_ptr, Nat.zero_add, extr0, extr1, extr2, lenStr, decide_true, decide_false, bt_tt, bt_tf, bt_ft, bt_ff, bt_bne, Bool.not_true, Bool.not_false, Int.reduceBEq, Int.reduceBNe, extr30, extr31, rp_new hw.oneC, hH1, hb.all (n := 5) rfl]
    refine Ev.callC c1 ?_
    have e : (ckB k e a l x.length != 0) = true := by simpa using h0
    simp only [real_b, real_i, real_c, chk_t, bnd_some, bnd_up, iff_t, iff_f, gd_t, gd_f, wd_b, wd_u, pick_t, pick_f, b_lss, b_leq, b_gtr, b_geq, b_eql, b_neq, b_seql, b_sneq, b_add, b_sub, u_not, nilC_ptr, fAddr_ptr, Nat.zero_add, extr0, extr1, extr2, lenStr, decide_true, decide_false, bt_tt, bt_tf, bt_ft, bt_ff, bt_bne, Bool.not_true, Bool.not_false, Int.reduceBEq, Int.reduceBNe, extr30, extr31, e]
    exact Ev.pure _

/-! ### by the reference -/
theorem rask_ok {H : Heap} {k : Int} {l : List UInt8} {w : Value} {x : List Nat} (hw : By H x w) (hl : l.length < 9223372036854775807) :
    ∃ v H', Cl 12 [rqV k l w] H (.tuple #[v, .int .i64 (ckA k l x.length)]) H' ∧ Acc (all H) H' 1 v (askP k l x).length (B (askP k l x)) ∧ Keep (all H) H H' := by
  have hm : mostBytes = 140737488355328 := rfl
  have k1 : Keep (all H) H (H.push ⟨[.int .i64 k, .string (bs l), w], 1, true⟩) := push_keep
  have hb : Box (all (H.push ⟨[.int .i64 k, .string (bs l), w], 1, true⟩)) (H.push ⟨[.int .i64 k, .string (bs l), w], 1, true⟩) H.n [.int .i64 k, .string (bs l), w] := push_boxA
  generalize hH1 : H.push ⟨[.int .i64 k, .string (bs l), w], 1, true⟩ = H1 at *
  obtain ⟨H2, c1, c2⟩ := rask_may (k := k) (l := l) (hw.up k1) hl
  have hb2 := (hb.keep c2).mono (upA c2)
  have hw2 := (hw.up k1).up c2
  by_cases h0 : ckA k l x.length = 0
  · have hok := ckA_ok h0
    have hP : askP k l x = wrA k l x := by simp [askP, h0]
    have hnl := nb_len k
    have htl := tb_len (U l)
    rw [U_len] at htl
    obtain ⟨u, H3, n1, n2, n3⟩ := rnumber_ok (c := []) (x := k) (Rb.all H2) Acc.nil (by simp; omega)
    rw [List.nil_append] at n2
    have hb3 := hb2.keep n3
    have n2' : Acc (fun b => b < H2.n ∨ b = H3.n) (H3.push ⟨B (U l), 1, true⟩) 1 u (nb k).length (B (nb k)) := (n2.more (R' := fun b => b < H2.n ∨ b = H3.n) (fun b hb hn => hb.resolve_right (by omega))).push
    have hR4 : Rb (fun b => b < H2.n ∨ b = H3.n) (H3.push ⟨B (U l), 1, true⟩) := fun b hb => by
      have := n3.1
      simp only [push_n]; omega
    have k4 : Keep (all H2) H3 (H3.push ⟨B (U l), 1, true⟩) := Keep.push ((Rb.all H2).mono n3.1)
    obtain ⟨v1, H5, p1, p2, p3⟩ := rtext_ok (d := U l) (t := .slice (some ⟨H3.n, 0, none⟩) (U l).length (U l).length) hR4 n2' (push_Sl (.inr rfl)) (by rw [U_len]; omega)
    have p3' : Keep (all H2) (H3.push ⟨B (U l), 1, true⟩) H5 := p3.mono (fun b hb => .inl hb)
    have hb4 := hb3.keep k4
    have hb5 := hb4.keep p3'
    have hw5 := ((hw2.keep n3).keep k4).keep p3'
    obtain ⟨v2, H6, q1, q2, q3⟩ := rtext_ok (d := x) (((Rb.all H2).mono n3.1).mono (Nat.le_trans k4.1 p3'.1)) (p2.low (fun b hb => .inl hb)) hw5 (by rw [List.length_append]; omega)
    have hK : Keep (all H2) H2 H6 := n3.trans (k4.trans (p3'.trans q3))
    refine ⟨v2, H6, ?_, ?_, k1.tr (c2.tr hK)⟩
    · rw [h0]
      refine Ev.enter (fun n => f12_eq rfl n _ _) ?_
      simp only [f12, real_b, real_i, real_c, chk_t, bnd_some, bnd_up, iff_t, iff_f, gd_t, gd_f, wd_b, wd_u, pick_t, pick_f, b_lss, b_leq, b_gtr, b_geq, b_eql, b_neq, b_seql, b_sneq, b_add, b_sub, u_not, nilC_ptr, fAddr_ptr, Nat.zero_add, extr0, extr1, extr2, lenStr, decide_true, decide_false, bt_tt, bt_tf, bt_ft, bt_ff, bt_bne, Bool.not_true, Bool.not_false, Int.reduceBEq, Int.reduceBNe, extr30, extr31, rq_new hw.oneC, hH1, hb.all (n := 3) rfl]
      refine Ev.callC c1 ?_
      rw [h0]
      simp only [real_b, real_i, real_c, chk_t, bnd_some, bnd_up, iff_t, iff_f, gd_t, gd_f, wd_b, wd_u, pick_t, pick_f, b_lss, b_leq, b_gtr, b_geq, b_eql, b_neq, b_seql, b_sneq, b_add, b_sub, u_not, nilC_ptr, fAddr_ptr, Nat.zero_add, extr0, extr1, extr2, lenStr, decide_true, decide_false, bt_tt, bt_tf, bt_ft, bt_ff, bt_bne, Bool.not_true, Bool.not_false, Int.reduceBEq, Int.reduceBNe, extr30, extr31, hb2.ld (k := 0) (v := .int .i64 k) rfl]
      refine Ev.callC n1 ?_
      simp only [real_b, real_i, real_c, chk_t, bnd_some, bnd_up, iff_t, iff_f, gd_t, gd_f, wd_b, wd_u, pick_t, pick_f, b_lss, b_leq, b_gtr, b_geq, b_eql, b_neq, b_seql, b_sneq, b_add, b_sub, u_not, nilC_ptr, fAddr_ptr, Nat.zero_add, extr0, extr1, extr2, lenStr, decide_true, decide_false, bt_tt, bt_tf, bt_ft, bt_ff, bt_bne, Bool.not_true, Bool.not_false, Int.reduceBEq, Int.reduceBNe, extr30, extr31, hb2.blk n3, Bool.and_true, hb3.ld (k := 1) (v := .string (bs l)) rfl, ofStr_ok (show l.length ≤ mostBytes by omega)]
      refine Ev.callC p1 ?_
      simp only [real_b, real_i, real_c, chk_t, bnd_some, bnd_up, iff_t, iff_f, gd_t, gd_f, wd_b, wd_u, pick_t, pick_f, b_lss, b_leq, b_gtr, b_geq, b_eql, b_neq, b_seql, b_sneq, b_add, b_sub, u_not, nilC_ptr, fAddr_ptr, Nat.zero_add, extr0, extr1, extr2, lenStr, decide_true, decide_false, bt_tt, bt_tf, bt_ft, bt_ff, bt_bne, Bool.not_true, Bool.not_false, Int.reduceBEq, Int.reduceBNe, extr30, extr31, hb4.blk p3', hb2.blk n3, Bool.and_self, Bool.and_true, hb5.ld (k := 2) (v := w) rfl]
      refine Ev.callC q1 ?_
      exact Ev.pure _
    · rw [hP]
      have e : nb k ++ tb (U l) ++ tb x = wrA k l x := by simp [wrA, nbs, tbs]
      rw [e] at q2
      exact q2.low (fun b hb => upA c2 b (upA k1 b hb))
  · have hP : askP k l x = [] := by simp [askP, h0]
    rw [hP]
    refine ⟨nilS, H2, ?_, Acc.nil, k1.tr c2⟩
    refine Ev.enter (fun n => f12_eq rfl n _ _) ?_
    simp only [f12, real_b, real_i, real_c, chk_t, bnd_some, bnd_up, iff_t, iff_f, gd_t, gd_f, wd_b, wd_u, pick_t, pick_f, b_lss, b_leq, b_gtr, b_geq, b_eql, b_neq, b_seql, b_sneq, b_add, b_sub, u_not, nilC_ptr, fAddr_ptr, Nat.zero_add, extr0, extr1, extr2, lenStr, decide_true, decide_false, bt_tt, bt_tf, bt_ft, bt_ff, bt_bne, Bool.not_true, Bool.not_false, Int.reduceBEq, Int.reduceBNe, extr30, extr31, rq_new hw.oneC, hH1, hb.all (n := 3) rfl]
    refine Ev.callC c1 ?_
    have e : (ckA k l x.length != 0) = true := by simpa using h0
    simp only [real_b, real_i, real_c, chk_t, bnd_some, bnd_up, iff_t, iff_f, gd_t, gd_f, wd_b, wd_u, pick_t, pick_f, b_lss, b_leq, b_gtr, b_geq, b_eql, b_neq, b_seql, b_sneq, b_add, b_sub, u_not, nilC_ptr, fAddr_ptr, Nat.zero_add, extr0, extr1, extr2, lenStr, decide_true, decide_false, bt_tt, bt_tf, bt_ft, bt_ff, bt_bne, Bool.not_true, Bool.not_false, Int.reduceBEq, Int.reduceBNe, extr30, extr31, e]
    exact Ev.pure _
theorem rans_ok {H : Heap} {k e a : Int} {l : List UInt8} {w : Value} {x : List Nat} (hw : By H x w) :
    ∃ v H', Cl 19 [rpV k e a l w] H (.tuple #[v, .int .i64 (ckB k e a l x.length)]) H' ∧ Acc (all H) H' 1 v (ansP k e a l x).length (B (ansP k e a l x)) ∧ Keep (all H) H H' := by
  have hm : mostBytes = 140737488355328 := rfl
  have k1 : Keep (all H) H (H.push ⟨[.int .i64 k, .int .i64 e, .int .i64 a, .string (bs l), w], 1, true⟩) := push_keep
  have hb : Box (all (H.push ⟨[.int .i64 k, .int .i64 e, .int .i64 a, .string (bs l), w], 1, true⟩)) (H.push ⟨[.int .i64 k, .int .i64 e, .int .i64 a, .string (bs l), w], 1, true⟩) H.n [.int .i64 k, .int .i64 e, .int .i64 a, .string (bs l), w] := push_boxA
  generalize hH1 : H.push ⟨[.int .i64 k, .int .i64 e, .int .i64 a, .string (bs l), w], 1, true⟩ = H1 at *
  obtain ⟨H2, c1, c2⟩ := rans_may (k := k) (e := e) (a := a) (l := l) (hw.up k1)
  have hb2 := (hb.keep c2).mono (upA c2)
  have hw2 := (hw.up k1).up c2
  by_cases h0 : ckB k e a l x.length = 0
  · have hok := ckB_ok h0
    have hP : ansP k e a l x = wrB k e a l x := by simp [ansP, h0]
    have hnl := nb_len k
    have hnl2 := nb_len e
    have hnl3 := nb_len a
    have htl := tb_len (U l)
    rw [U_len] at htl
    obtain ⟨u, Ha, n1, n2, n3⟩ := rnumber_ok (c := []) (x := k) (Rb.all H2) Acc.nil (by simp; omega)
    rw [List.nil_append] at n2
    obtain ⟨u', Hb, n1', n2', n3'⟩ := rnumber_ok (x := e) ((Rb.all H2).mono n3.1) n2 (by omega)
    obtain ⟨u'', H3, m1, m2, m3⟩ := rnumber_ok (x := a) (((Rb.all H2).mono n3.1).mono n3'.1) n2' (by rw [List.length_append]; omega)
    have hba := hb2.keep n3
    have hbb := hba.keep n3'
    have hb3 := hbb.keep m3
    have kk : Keep (all H2) H2 H3 := n3.trans (n3'.trans m3)
    have m2' : Acc (fun b => b < H2.n ∨ b = H3.n) (H3.push ⟨B (U l), 1, true⟩) 1 u'' (nb k ++ nb e ++ nb a).length (B (nb k ++ nb e ++ nb a)) := (m2.more (R' := fun b => b < H2.n ∨ b = H3.n) (fun b hb hn => hb.resolve_right (by omega))).push
    have hR4 : Rb (fun b => b < H2.n ∨ b = H3.n) (H3.push ⟨B (U l), 1, true⟩) := fun b hb => by
      have := kk.1
      simp only [push_n]; omega
    have k4 : Keep (all H2) H3 (H3.push ⟨B (U l), 1, true⟩) := Keep.push ((Rb.all H2).mono kk.1)
    obtain ⟨v1, H5, p1, p2, p3⟩ := rtext_ok (d := U l) (t := .slice (some ⟨H3.n, 0, none⟩) (U l).length (U l).length) hR4 m2' (push_Sl (.inr rfl)) (by rw [U_len, List.length_append, List.length_append]; omega)
    have p3' : Keep (all H2) (H3.push ⟨B (U l), 1, true⟩) H5 := p3.mono (fun b hb => .inl hb)
    have hb4 := hb3.keep k4
    have hb5 := hb4.keep p3'
    have hw5 := ((hw2.keep kk).keep k4).keep p3'
    obtain ⟨v2, H6, q1, q2, q3⟩ := rtext_ok (d := x) (((Rb.all H2).mono kk.1).mono (Nat.le_trans k4.1 p3'.1)) (p2.low (fun b hb => .inl hb)) hw5 (by simp only [List.length_append]; omega)
    have hK : Keep (all H2) H2 H6 := kk.trans (k4.trans (p3'.trans q3))
    refine ⟨v2, H6, ?_, ?_, k1.tr (c2.tr hK)⟩
    · rw [h0]
      refine Ev.enter (fun n => f19_eq rfl n _ _) ?_
      simp only [f19, real_b, real_i, real_c, chk_t, bnd_some, bnd_up, iff_t, iff_f, gd_t, gd_f, wd_b, wd_u, pick_t, pick_f, b_lss, b_leq, b_gtr, b_geq, b_eql, b_neq, b_seql, b_sneq, b_add, b_sub, u_not, nilC_ptr, fAddr_ptr, Nat.zero_add, extr0, extr1, extr2, lenStr, decide_true, decide_false, bt_tt, bt_tf, bt_ft, bt_ff, bt_bne, Bool.not_true, Bool.not_false, Int.reduceBEq, Int.reduceBNe, extr30, extr31, rp_new hw.oneC, hH1, hb.all (n := 5) rfl]
      refine Ev.callC c1 ?_
      rw [h0]
      simp only [real_b, real_i, real_c, chk_t, bnd_some, bnd_up, iff_t, iff_f, gd_t, gd_f, wd_b, wd_u, pick_t, pick_f, b_lss, b_leq, b_gtr, b_geq, b_eql, b_neq, b_seql, b_sneq, b_add, b_sub, u_not, nilC_ptr, fAddr_ptr, Nat.zero_add, extr0, extr1, extr2, lenStr, decide_true, decide_false, bt_tt, bt_tf, bt_ft, bt_ff, bt_bne, Bool.not_true, Bool.not_false, Int.reduceBEq, Int.reduceBNe, extr30, extr31, hb2.ld (k := 0) (v := .int .i64 k) rfl]
      refine Ev.callC n1 ?_
      simp only [real_b, real_i, real_c, chk_t, bnd_some, bnd_up, iff_t, iff_f, gd_t, gd_f, wd_b, wd_u, pick_t, pick_f, b_lss, b_leq, b_gtr, b_geq, b_eql, b_neq, b_seql, b_sneq, b_add, b_sub, u_not, nilC_ptr, fAddr_ptr, Nat.zero_add, extr0, extr1, extr2, lenStr, decide_true, decide_false, bt_tt, bt_tf, bt_ft, bt_ff, bt_bne, Bool.not_true, Bool.not_false, Int.reduceBEq, Int.reduceBNe, extr30, extr31, hb2.blk n3, Bool.and_true, hba.ld (k := 1) (v := .int .i64 e) rfl]
      refine Ev.callC n1' ?_
      simp only [real_b, real_i, real_c, chk_t, bnd_some, bnd_up, iff_t, iff_f, gd_t, gd_f, wd_b, wd_u, pick_t, pick_f, b_lss, b_leq, b_gtr, b_geq, b_eql, b_neq, b_seql, b_sneq, b_add, b_sub, u_not, nilC_ptr, fAddr_ptr, Nat.zero_add, extr0, extr1, extr2, lenStr, decide_true, decide_false, bt_tt, bt_tf, bt_ft, bt_ff, bt_bne, Bool.not_true, Bool.not_false, Int.reduceBEq, Int.reduceBNe, extr30, extr31, hb2.blk n3, hba.blk n3', Bool.and_true, Bool.and_self, hbb.ld (k := 2) (v := .int .i64 a) rfl]
      refine Ev.callC m1 ?_
      simp only [real_b, real_i, real_c, chk_t, bnd_some, bnd_up, iff_t, iff_f, gd_t, gd_f, wd_b, wd_u, pick_t, pick_f, b_lss, b_leq, b_gtr, b_geq, b_eql, b_neq, b_seql, b_sneq, b_add, b_sub, u_not, nilC_ptr, fAddr_ptr, Nat.zero_add, extr0, extr1, extr2, lenStr, decide_true, decide_false, bt_tt, bt_tf, bt_ft, bt_ff, bt_bne, Bool.not_true, Bool.not_false, Int.reduceBEq, Int.reduceBNe, extr30, extr31, hb3.ld (k := 3) (v := .string (bs l)) rfl, ofStr_ok (show l.length ≤ mostBytes by omega)]
      refine Ev.callC p1 ?_
      simp only [real_b, real_i, real_c, chk_t, bnd_some, bnd_up, iff_t, iff_f, gd_t, gd_f, wd_b, wd_u, pick_t, pick_f, b_lss, b_leq, b_gtr, b_geq, b_eql, b_neq, b_seql, b_sneq, b_add, b_sub, u_not, nilC_ptr, fAddr_ptr, Nat.zero_add, extr0, extr1, extr2, lenStr, decide_true, decide_false, bt_tt, bt_tf, bt_ft, bt_ff, bt_bne, Bool.not_true, Bool.not_false, Int.reduceBEq, Int.reduceBNe, extr30, extr31, hb4.blk p3', Bool.and_self, Bool.and_true, hb5.ld (k := 4) (v := w) rfl]
      refine Ev.callC q1 ?_
      exact Ev.pure _
    · rw [hP]
      have e : nb k ++ nb e ++ nb a ++ tb (U l) ++ tb x = wrB k e a l x := by simp [wrB, nbs, tbs]
      rw [e] at q2
      exact q2.low (fun b hb => upA c2 b (upA k1 b hb))
  · have hP : ansP k e a l x = [] := by simp [ansP, h0]
    rw [hP]
    refine ⟨nilS, H2, ?_, Acc.nil, k1.tr c2⟩
    refine Ev.enter (fun n => f19_eq rfl n _ _) ?_
    simp only [f19, real_b, real_i, real_c, chk_t, bnd_some, bnd_up, iff_t, iff_f, gd_t, gd_f, wd_b, wd_u, pick_t, pick_f, b_lss, b_leq, b_gtr, b_geq, b_eql, b_neq, b_seql, b_sneq, b_add, b_sub, u_not, nilC_ptr, fAddr_ptr, Nat.zero_add, extr0, extr1, extr2, lenStr, decide_true, decide_false, bt_tt, bt_tf, bt_ft, bt_ff, bt_bne, Bool.not_true, Bool.not_false, Int.reduceBEq, Int.reduceBNe, extr30, extr31, rp_new hw.oneC, hH1, hb.all (n := 5) rfl]
    refine Ev.callC c1 ?_
    have e : (ckB k e a l x.length != 0) = true := by simpa using h0
    simp only [real_b, real_i, real_c, chk_t, bnd_some, bnd_up, iff_t, iff_f, gd_t, gd_f, wd_b, wd_u, pick_t, pick_f, b_lss, b_leq, b_gtr, b_geq, b_eql, b_neq, b_seql, b_sneq, b_add, b_sub, u_not, nilC_ptr, fAddr_ptr, Nat.zero_add, extr0, extr1, extr2, lenStr, decide_true, decide_false, bt_tt, bt_tf, bt_ft, bt_ff, bt_bne, Bool.not_true, Bool.not_false, Int.reduceBEq, Int.reduceBNe, extr30, extr31, e]
    exact Ev.pure _
end Go.Eng
