import Derived.Test.YtimhmmeoliagjaaDoorQO
import Derived.Recover
import Derived.WideLaws
set_option linter.unusedVariables false
set_option linter.unusedSimpArgs false
set_option linter.unusedSectionVars false
set_option maxRecDepth 100000
namespace Go.Eng
open Go Go.Proofs

noncomputable def rest_c : Code := cAt f24_c [1, 1, 1]
noncomputable def rest24 (S : Seam (Value × Heap)) (C : CallF) (n : Nat) (x0 x2 x3 x4 : Value) (H : Heap) : Option (Value × Heap) :=
  S.b (bld [(.string ⟨#[]⟩), (.int .i64 0)] [(0, 1, x0)] H) fun y19 H20 =>
  S.b (bld [(.string ⟨#[]⟩), (.int .i64 0), (.slice none 0 0)] [(0, 2, y19)] H20) fun y21 H22 =>
  S.b (newV (Value.cells y21).toList H22) fun y23 H24 =>
  S.b (C 46 [y23] H24) fun y25 H26 =>
  S.b (nilC y23 H26) fun y27 H28 =>
  S.b (up (fAddr 0 y27) H28) fun y29 H30 =>
  S.b (up (fAddr 1 y29) H30) fun y31 H32 =>
  S.b (ldC y31 H32) fun y33 H34 =>
  S.b (up (lenStr x0) H34) fun y35 H36 =>
  S.b (up (binB Tryd.prog .lss 3 y33 y35) H36) fun y37 H38 =>
  S.i y37
  (S.b (nilC y23 H38) fun y39 H40 =>
  S.b (up (fAddr 0 y39) H40) fun y41 H42 =>
  S.b (C 47 [y41] H42) fun y43 H44 =>
  f24_J1 S C n x2 x3 x4 y23 H44)
  (f24_J1 S C n x2 x3 x4 y23 H38)
theorem rest_main (S : Seam (Value × Heap)) (C : CallF) (n : Nat) (env : Env) (H : Heap) : acodeK S Tryd.prog C n 41 rest_c env H (fin Tryd.prog Tryd.f24) = rest24 S C n (env 0) (env 2) (env 3) (env 4) H := by
  kernel_rfl
def RestQ (H : Heap) (T : List UInt8) (p2 p3 p4 : Nat) : Pt → Prop
  | .ok t => ∃ vl H', Ev (fun n _ => rest24 realP (AP n) n (.string (bs T)) (ptr p2 0) (ptr p3 0) (ptr p4 0) H) (.tuple #[.agg #[vl], .int .i64 0, .int .i64 0], H') ∧ Keep (fun q => q < H.n ∧ q ≠ p2 ∧ q ≠ p3 ∧ q ≠ p4) H H' ∧ Acc (all H) H' 7 vl t.size (NDS (t.flat 0))
  | .big => ∃ H', Ev (fun n _ => rest24 realP (AP n) n (.string (bs T)) (ptr p2 0) (ptr p3 0) (ptr p4 0) H) (.tuple #[.agg #[nilS], .int .i64 0, .int .i64 5], H') ∧ Keep (fun q => q < H.n ∧ q ≠ p2 ∧ q ≠ p3 ∧ q ≠ p4) H H'
  | .bad k => ∃ H', Ev (fun n _ => rest24 realP (AP n) n (.string (bs T)) (ptr p2 0) (ptr p3 0) (ptr p4 0) H) (thrown k, H') ∧ Keep (all H) H H'
theorem rest_ok {H : Heap} {T : List UInt8} (hT : T.length ≤ 1024) (hL : Lt (all H) H) {p2 p3 p4 : Nat} (n23 : p2 ≠ p3) (n24 : p2 ≠ p4) (n34 : p3 ≠ p4) (l2 : p2 < H.n) (l3 : p3 < H.n) (l4 : p4 < H.n)
    (g2 : H.get p2 = some ⟨[nilS], 1, true⟩) (g3 : H.get p3 = some ⟨[.int .i64 0], 1, true⟩) (g4 : H.get p4 = some ⟨[.int .i64 0], 1, true⟩) : RestQ H T p2 p3 p4 (parseR (U T)) := by
  obtain ⟨H1, hH1⟩ : ∃ H1, H.push ⟨[.string (bs T), .int .i64 ((0 : Nat) : Int), nilS], 1, true⟩ = H1 := ⟨_, rfl⟩
  have n1 : H1.n = H.n + 1 := by rw [← hH1]; rfl
  have k1 : Keep (all H) H H1 := by rw [← hH1]; exact push_keep
  have t1 : TB H1 H.n T 0 nilS := ⟨by omega, by rw [← hH1]; exact push_self⟩
  have r1 : RB H H1 H.n T 0 [] := ⟨Nat.le_refl _, k1, nilS, t1, Acc.nil, by simp [nilS, blkOf]⟩
  have hV := (read_ok hT hL (4 * (U T).length + 8)).2.2.2 r1 (by omega) (by rw [U_len']; omega) (by simp; omega)
  rw [List.drop_zero] at hV
  have b1 : bld [(.string ⟨#[]⟩), (.int .i64 0)] [(0, 1, .string (bs T))] H = some (.agg #[.string (bs T), .int .i64 0], H) := rfl
  have b2 : bld [(.string ⟨#[]⟩), (.int .i64 0), (.slice none 0 0)] [(0, 2, .agg #[.string (bs T), .int .i64 0])] H = some (.agg [.string (bs T), .int .i64 ((0 : Nat) : Int), nilS].toArray, H) := rfl
  have b3 : newV (Value.cells (.agg [.string (bs T), .int .i64 ((0 : Nat) : Int), nilS].toArray)).toList H = some (ptr H.n 0, H1) := by rw [newA rfl, hH1]
  unfold parseR
  rw [if_neg (by rw [U_len']; omega)]
  cases hw : waysR (4 * (U T).length + 8) (U T) with
  | error e =>
    rw [hw] at hV
    obtain ⟨at', H', q1, rfl, q3, q4⟩ := hV
    have e1 : (U T).length - ((U T).drop at').length = at' := by rw [List.length_drop, U_len']; omega
    simp only [e1]
    refine ⟨H', ?_, q4⟩
    simp only [rest24, ruA, ruB, ruC, ruE, ruD, lenStr, Int.reduceBEq, Int.reduceBNe, ruP, b1, b2, b3]
    exact Ev.panQ q3 rfl
  | ok p =>
    obtain ⟨t, r⟩ := p
    rw [hw] at hV
    obtain ⟨at', H', q1, rfl, q3, q4⟩ := hV
    obtain ⟨vl, tb, pT⟩ := q4.text
    have e1 : (U T).length - ((U T).drop at').length = at' := by rw [List.length_drop, U_len']; omega
    simp only [e1]
    by_cases hl : at' < T.length
    · have hne : (U T).drop at' ≠ [] := fun e => by
        have := congrArg List.length e
        rw [List.length_drop, U_len'] at this
        simp at this; omega
      rw [if_pos hne]
      refine ⟨H', ?_, q4.under (Keep.refl _ _)⟩
      simp only [rest24, ruA, ruB, ruC, ruE, ruD, lenStr, Int.reduceBEq, Int.reduceBNe, ruP, b1, b2, b3]
      refine Ev.callQ q3 rfl ?_
      simp only [ruA, ruB, ruC, ruE, ruD, lenStr, Int.reduceBEq, Int.reduceBNe, ruP, tb.ld1, bs_size, idx_lt hl]
      exact Ev.panQ (fail_cl tb) rfl
    · have hnil : (U T).drop at' = [] := U_drop_end (by omega)
      rw [if_neg (by simp [hnil])]
      have hK := q4.under (Keep.refl (But H' H.n) H')
      have hn := hK.1
      have f2 : H'.get p2 = some ⟨[nilS], 1, true⟩ := by rw [hK.2 _ l2]; exact g2
      have f3 : H'.get p3 = some ⟨[.int .i64 0], 1, true⟩ := by rw [hK.2 _ l3]; exact g3
      have f4 : H'.get p4 = some ⟨[.int .i64 0], 1, true⟩ := by rw [hK.2 _ l4]; exact g4
      obtain ⟨q40, qK, vl', tb', qA, qne⟩ := q4
      have hlen : lenS vl' = some (.int .i64 (t.size : Int)) := by
        have := qA.sl.lenS
        simpa [Rx.flat_len] using this
      have fin : ∀ (x : Value) (e : Int), Eng.oneC x = true → ∃ H3, (stV 1 (ptr p2 0) (.agg #[x]) H' = some (undef, H'.upd p2 (some ⟨[x], 1, true⟩))) ∧
          (stV 1 (ptr p3 0) (.int .i64 0) (H'.upd p2 (some ⟨[x], 1, true⟩)) = some (undef, (H'.upd p2 (some ⟨[x], 1, true⟩)).upd p3 (some ⟨[.int .i64 0], 1, true⟩))) ∧
          (stV 1 (ptr p4 0) (.int .i64 e) ((H'.upd p2 (some ⟨[x], 1, true⟩)).upd p3 (some ⟨[.int .i64 0], 1, true⟩)) = some (undef, H3)) ∧
          Eng.ldA 1 (ptr p2 0) H3 = some (.agg #[x], H3) ∧ ldC (ptr p3 0) H3 = some (.int .i64 0, H3) ∧ ldC (ptr p4 0) H3 = some (.int .i64 e, H3) ∧ Keep (fun q => q ≠ p2 ∧ q ≠ p3 ∧ q ≠ p4) H' H3 := by
        intro x e hx
        refine ⟨((H'.upd p2 (some ⟨[x], 1, true⟩)).upd p3 (some ⟨[.int .i64 0], 1, true⟩)).upd p4 (some ⟨[.int .i64 e], 1, true⟩), stG (ds := [x]) f2 rfl rfl (by simpa using hx), ?_, ?_, ?_, ?_, ?_, ?_⟩
        · rw [stV1_box (by rw [upd_ne (Ne.symm n23)]; exact f3) (by show 0 < 1; omega) rfl rfl]; rfl
        · rw [stV1_box (by rw [upd_ne (Ne.symm n34), upd_ne (Ne.symm n24)]; exact f4) (by show 0 < 1; omega) rfl rfl]; rfl
        · exact ldAG (cs := [x]) (by rw [upd_ne n24, upd_ne n23]; exact upd_self) rfl
        · exact ldG (by rw [upd_ne n34]; exact upd_self) rfl
        · exact ldG upd_self rfl
        · exact ((Keep.upd fun h => h.1 rfl).trans (Keep.upd fun h => h.2.1 rfl)).trans (Keep.upd fun h => h.2.2 rfl)
      have rm : ∀ a b c : Value, resM [some a, some b, some c] = some [a, b, c] := fun a b c => rfl
      have on : ∀ a b c : Value, one [a, b, c] = .tuple #[a, b, c] := fun a b c => rfl
      have kk : ∀ {H3 : Heap}, Keep (fun q => q ≠ p2 ∧ q ≠ p3 ∧ q ≠ p4) H' H3 → Keep (fun q => q < H.n ∧ q ≠ p2 ∧ q ≠ p3 ∧ q ≠ p4) H H3 := fun {H3} k => (hK.mono fun q hq => hq.1).trans (k.mono fun q hq => hq.2)
      by_cases hbig : 256 < t.size
      · rw [if_pos hbig]
        obtain ⟨H3, s1, s2, s3, u1, u2, u3, k3⟩ := fin nilS 5 rfl
        refine ⟨H3, ?_, kk k3⟩
        have e : ((t.size : Int) > 256) = True := eq_true (by omega)
        have bn : bld [(.slice none 0 0)] [] H' = some (.agg #[nilS], H') := rfl
        simp only [rest24, ruA, ruB, ruC, ruE, ruD, lenStr, Int.reduceBEq, Int.reduceBNe, ruP, b1, b2, b3]
        refine Ev.callQ q3 rfl ?_
        simp only [ruA, ruB, ruC, ruE, ruD, lenStr, Int.reduceBEq, Int.reduceBNe, ruP, tb'.ld1, bs_size, idx_ge (show T.length ≤ at' by omega), f24_J1, tb'.ld2', bndP_val (show isP vl' = false from by rcases qA with ⟨rfl, _⟩ | ⟨_, rfl, _⟩ <;> rfl), hlen, e, bn, s1, s2, s3, u1, u2, u3, Option.map_some, rm, on]
        exact Ev.pure _
      · rw [if_neg hbig]
        obtain ⟨H3, s1, s2, s3, u1, u2, u3, k3⟩ := fin vl' 0 qA.oneC.1
        refine ⟨vl', H3, ?_, kk k3, ?_⟩
        · have e : ((t.size : Int) > 256) = False := eq_false (by omega)
          have bn : bld [(.slice none 0 0)] [(0, 1, vl')] H' = some (.agg #[vl'], H') := by
            simp [bld, fillC, splice, qA.oneC.2]
          simp only [rest24, ruA, ruB, ruC, ruE, ruD, lenStr, Int.reduceBEq, Int.reduceBNe, ruP, b1, b2, b3]
          refine Ev.callQ q3 rfl ?_
          simp only [ruA, ruB, ruC, ruE, ruD, lenStr, Int.reduceBEq, Int.reduceBNe, ruP, tb'.ld1, bs_size, idx_ge (show T.length ≤ at' by omega), f24_J1, tb'.ld2', bndP_val (show isP vl' = false from by rcases qA with ⟨rfl, _⟩ | ⟨_, rfl, _⟩ <;> rfl), hlen, e, bn, s1, s2, s3, u1, u2, u3, Option.map_some, rm, on]
          exact Ev.pure _
        · have hA' : Acc (all H) H' 7 vl' t.size (NDS (t.flat 0)) := by
            have := qA
            simpa [Rx.flat_len] using this
          exact hA'.gen k3 fun q hq hq2 => by have : ¬ q < H.n := hq; exact ⟨by omega, by omega, by omega⟩
end Go.Eng

set_option linter.unusedVariables false
set_option linter.unusedSimpArgs false
set_option linter.unusedSectionVars false
set_option maxRecDepth 100000
namespace Go.Eng
open Go Go.Proofs

noncomputable def cat_rest : Code := cAt ((Tryd.f45.body).getD .skip) [1]
theorem cat_body : Tryd.f45.body = some (.seq (.region 0 #[⟨some 6, .call ⟨.builtin .recover, #[], #[]⟩, 20, "regex.go:341", #[], none⟩] false) cat_rest) := by kernel_rfl
noncomputable def cat_else : Code := cAt ((Tryd.f45.body).getD .skip) [1, 0, 1, 1]
theorem cat_rest_eq : cat_rest = .block 0 (.seq (.region 3 #[⟨some 8, .binOp .eql 20 (.tmp 6) (.const .nilIface) 20, 4, "regex.go:341", #[], none⟩] false) (.cond (.tmp 8) (.region 4 #[⟨some 3, .assign (.tmp 6), 20, "regex.go:341", #[], none⟩] false) cat_else)) := by kernel_rfl
theorem cat_res (tmps : Array Value) (w : World) : (Go.results Tryd.f45 tmps).run Tryd.prog w = .ok (.tuple #[]) w := by
  have h : Tryd.f45.results = #[] := by kernel_rfl
  simp [Go.results, h]
theorem catch_ret {args : Array Value} (w : World) : CallsD Tryd.prog 45 args .returning w fun e u' w' => (∃ v, e = .returned v) ∧ u' = .returning ∧ w' = w := by
  refine callsD_of_wpS Tryd.func45 cat_body fun c0 cs hc => ?_
  refine wpS_seq (wpS_region ?_)
  have hr : recoverD (c0 :: cs) = none := by simp [recoverD, hc]
  have h0 : ∀ a : Act, (execOp a.eval ⟨some 6, .call ⟨.builtin .recover, #[], #[]⟩, 20, "regex.go:341", #[], none⟩).run Tryd.prog w = .ok .recover w := fun a => by
    simp [execOp, resolve, invoke]
    rfl
  show wpOpsS _ _ _ [0] _ _ _
  simp only [wpOpsS, List.getElem?_toArray, List.getElem?_cons_zero, Region.wanted, if_true]
  rw [h0]
  simp only [hr]
  show cat_rest.wpS _ _ _ _ _
  obtain ⟨a1, ha1⟩ : ∃ a1, ({ tmps := args ++ Array.replicate (Tryd.f45.ntmps - args.size) undef, defers := [] } : Act).put (some 6) .nilIface = a1 := ⟨_, rfl⟩
  have hd1 : a1.defers = [] := by rw [← ha1]; rfl
  rw [ha1]
  have hn : Tryd.f45.ntmps = 14 := by kernel_rfl
  have hsz : 14 ≤ a1.tmps.size := by
    rw [← ha1, put_size]
    simp [hn]; omega
  have e6 : a1.tmps.getD 6 undef = .nilIface := by
    have h6 : 6 < (args ++ Array.replicate (Tryd.f45.ntmps - args.size) undef).size := by simp [hn]; omega
    rw [← ha1]
    simp only [Act.put, Array.getD_eq_getD_getElem?]
    rw [Array.getElem?_setIfInBounds_self_of_lt h6]
    rfl
  rw [cat_rest_eq]
  refine wpS_of_wp (wp_block (wp_seq (wp_region ?_)))
  have r3 : (execOp a1.eval ⟨some 8, .binOp .eql 20 (.tmp 6) (.const .nilIface) 20, 4, "regex.go:341", #[], none⟩).run Tryd.prog w = .ok (.value (.bool true)) w := by
    have hu : Tryd.prog.underlying 20 = some (.interface (Tryd.prog.methodsAt 20)) := by kernel_rfl
    simp [execOp, Act.eval, e6, eqGuard, run_eql_nil_nil (t := 20) (h := hu)]
  show wpOps _ _ _ [0] _ _
  simp only [wpOps, List.getElem?_toArray, List.getElem?_cons_zero, Region.wanted, if_true]
  left
  unfold Oper.wp
  rw [r3]
  have e8 : (a1.put (some 8) (.bool true)).tmps.getD 8 undef = .bool true := by
    simp only [Act.put, Array.getD_eq_getD_getElem?]
    rw [Array.getElem?_setIfInBounds_self_of_lt (by omega)]
    rfl
  have e68 : (a1.put (some 8) (.bool true)).tmps.getD 6 undef = .nilIface := by
    rw [← e6]
    simp only [Act.put, Array.getD_eq_getD_getElem?]
    rw [Array.getElem?_setIfInBounds_ne (by decide)]
  obtain ⟨a2, ha2⟩ : ∃ a2, a1.put (some 8) (.bool true) = a2 := ⟨_, rfl⟩
  have hd2 : a2.defers = [] := by rw [← ha2, put_defers]; exact hd1
  rw [ha2] at e8 e68
  show Oper.upon _ _ a1 _ _ (.ok (.value (.bool true)) w)
  rw [Oper.upon_value]
  simp only [ha2, wpOps, Exit.then]
  refine wp_cond_true (c := .tmp 8) e8 (wp_region ?_)
  have r4 : (execOp a2.eval ⟨some 3, .assign (.tmp 6), 20, "regex.go:341", #[], none⟩).run Tryd.prog w = .ok (.value .nilIface) w := by
    simp [execOp, Act.eval, e68]
  show wpOps _ _ _ [0] _ _
  simp only [wpOps, List.getElem?_toArray, List.getElem?_cons_zero, Region.wanted, if_true]
  left
  unfold Oper.wp
  rw [r4, Oper.upon_value]
  refine ⟨by rw [put_defers]; exact hd2, .returning, by rw [← hc], ?_⟩
  exact ⟨_, cat_res _ _, ⟨_, rfl⟩, rfl, rfl⟩
end Go.Eng

set_option linter.unusedVariables false
set_option linter.unusedSimpArgs false
set_option linter.unusedSectionVars false
set_option maxRecDepth 100000
namespace Go.Eng
open Go Go.Proofs

theorem put_at {a : Act} {d : Tmp} {v : Value} (h : d < a.tmps.size) : (a.put (some d) v).tmps.getD d undef = v := by
  simp only [Act.put, Array.getD_eq_getD_getElem?]
  rw [Array.getElem?_setIfInBounds_self_of_lt h]
  rfl
theorem put_off {a : Act} {d k : Tmp} {v : Value} (h : d ≠ k) : (a.put (some d) v).tmps.getD k undef = a.tmps.getD k undef := by
  simp only [Act.put, Array.getD_eq_getD_getElem?]
  rw [Array.getElem?_setIfInBounds_ne h]
noncomputable def cat_E2 : Code := cAt ((Tryd.f45.body).getD .skip) [1, 0, 1, 1, 1, 1]
noncomputable def cat_R7 : List Oper := match cAt ((Tryd.f45.body).getD .skip) [1, 0, 1, 1, 1, 0, 1] with | .region _ ops _ => ops.toList | _ => []
theorem cat_else_eq : cat_else = .seq (.region 5 #[⟨some 9, .typeAssert (.tmp 6) 20 79 true, 0, "regex.go:341", #[], none⟩, ⟨some 10, .extract (.tmp 9) 1, 4, "regex.go:341", #[{ on := 0, ground := .data }], none⟩, ⟨some 11, .extract (.tmp 9) 0, 79, "regex.go:341", #[{ on := 0, ground := .data }], none⟩] false)
    (.cond (.tmp 10) (.seq (.region 6 #[⟨some 4, .assign (.tmp 11), 79, "regex.go:341", #[], none⟩] false) (.region 7 cat_R7.toArray false)) cat_E2) := by kernel_rfl
noncomputable def cat_af (i : Nat) : Array Edge := ((cat_R7[i]?).map Oper.after).getD #[]
theorem cat_R7_at : cat_R7 = [⟨some 12, .build 24 #[], 24, "regex.go:344", cat_af 0, none⟩, ⟨some 13, .move (.tmp 4), 79, "regex.go:344", cat_af 1, none⟩, ⟨none, .store 24 (.tmp 0) (.tmp 12), 0, "regex.go:344", cat_af 2, none⟩,
    ⟨none, .store 3 (.tmp 1) (.tmp 13), 0, "regex.go:344", cat_af 3, none⟩, ⟨none, .store 26 (.tmp 2) (.const (.int .i64 90)), 0, "regex.go:344", cat_af 4, none⟩] := by kernel_rfl
theorem catch_pan {args : Array Value} {m : Mp} {H H1 H2 H3 : Heap} {w : World} {p2 p3 p4 : Nat} {n : Int} (ha : LRel m [ptr p2 0, ptr p3 0, ptr p4 0] args.toList) (hr : HRel m H w)
    (s1 : stV 1 (ptr p2 0) (.agg #[nilS]) H = some (undef, H1)) (s2 : stV 1 (ptr p3 0) (.int .i64 n) H1 = some (undef, H2)) (s3 : stV 1 (ptr p4 0) (.int .i64 90) H2 = some (undef, H3)) :
    CallsD Tryd.prog 45 args (.panicking [entry 79 (.int .i64 n)]) w fun e u' w' => (∃ v, e = .returned v) ∧ settle u' = .returning ∧ Step m H w m H3 w' := by
  refine callsD_of_wpS Tryd.func45 cat_body fun c0 cs hc => ?_
  refine wpS_seq (wpS_region ?_)
  have hrc : recoverD (c0 :: cs) = some (.iface 79 (.int .i64 n), { c0 with mode := .panicking [{ v := .iface 79 (.int .i64 n), recovered := true }] } :: cs) := by simp [recoverD, hc, entry]
  have h0 : ∀ a : Act, (execOp a.eval ⟨some 6, .call ⟨.builtin .recover, #[], #[]⟩, 20, "regex.go:341", #[], none⟩).run Tryd.prog w = .ok .recover w := fun a => by
    simp [execOp, resolve, invoke]
    rfl
  show wpOpsS _ _ _ [0] _ _ _
  simp only [wpOpsS, List.getElem?_toArray, List.getElem?_cons_zero, Region.wanted, if_true]
  rw [h0]
  simp only [hrc]
  show cat_rest.wpS _ _ _ _ _
  obtain ⟨a0, ha0⟩ : ∃ a0, ({ tmps := args ++ Array.replicate (Tryd.f45.ntmps - args.size) undef, defers := [] } : Act) = a0 := ⟨_, rfl⟩
  have hn : Tryd.f45.ntmps = 14 := by kernel_rfl
  have hasz : args.size = 3 := by have := ha.1; simpa using this.symm
  have hsz0 : a0.tmps.size = 14 := by rw [← ha0]; simp [hn, hasz]
  have hd0 : a0.defers = [] := by rw [← ha0]
  have hget : ∀ i, i < 3 → a0.tmps.getD i undef = args.toList.getD i undef := fun i hi => by
    rw [← ha0]
    simp only [Array.getD_eq_getD_getElem?, List.getD_eq_getElem?_getD, Array.getElem?_toList]
    rw [Array.getElem?_append_left (by omega)]
  have hrel : ∀ i v, ([ptr p2 0, ptr p3 0, ptr p4 0] : List Value)[i]? = some v → VRel m v (a0.tmps.getD i undef) := fun i v hv => by
    obtain ⟨v', h1, h2⟩ := ha.get hv
    have hi : i < 3 := (List.getElem?_eq_some_iff.1 hv).1
    rw [hget i hi, List.getD_eq_getElem?_getD, h1]
    exact h2
  rw [ha0]
  obtain ⟨a1, ha1⟩ : ∃ a1, a0.put (some 6) (.iface 79 (.int .i64 n)) = a1 := ⟨_, rfl⟩
  have z1 : a1.tmps.size = 14 := by rw [← ha1, put_size]; exact hsz0
  have d1 : a1.defers = [] := by rw [← ha1, put_defers]; exact hd0
  have e6 : a1.tmps.getD 6 undef = .iface 79 (.int .i64 n) := by rw [← ha1]; exact put_at (d := 6) (by rw [hsz0]; decide)
  have o1 : ∀ i, i < 3 → a1.tmps.getD i undef = a0.tmps.getD i undef := fun i hi => by rw [← ha1]; exact put_off (d := 6) (show (6 : Nat) ≠ i by omega)
  rw [ha1, cat_rest_eq]
  refine wpS_of_wp (wp_block (wp_seq (wp_region ?_)))
  have r3 : (execOp a1.eval ⟨some 8, .binOp .eql 20 (.tmp 6) (.const .nilIface) 20, 4, "regex.go:341", #[], none⟩).run Tryd.prog w = .ok (.value (.bool false)) w := by
    have hu : Tryd.prog.underlying 20 = some (.interface (Tryd.prog.methodsAt 20)) := by kernel_rfl
    simp [execOp, Act.eval, e6, eqGuard, run_eql_held_nil (t := 20) (h := hu)]
  show wpOps _ _ _ [0] _ _
  simp only [wpOps, List.getElem?_toArray, List.getElem?_cons_zero, Region.wanted, if_true]
  left
  unfold Oper.wp
  rw [r3]
  show Oper.upon _ _ a1 _ _ (.ok (.value (.bool false)) w)
  rw [Oper.upon_value]
  obtain ⟨a2, ha2⟩ : ∃ a2, a1.put (some 8) (.bool false) = a2 := ⟨_, rfl⟩
  have z2 : a2.tmps.size = 14 := by rw [← ha2, put_size]; exact z1
  have d2 : a2.defers = [] := by rw [← ha2, put_defers]; exact d1
  have e62 : a2.tmps.getD 6 undef = .iface 79 (.int .i64 n) := by rw [← ha2, put_off (by decide)]; exact e6
  have e82 : a2.tmps.getD 8 undef = .bool false := by rw [← ha2]; exact put_at (d := 8) (by rw [z1]; decide)
  have o2 : ∀ i, i < 3 → a2.tmps.getD i undef = a0.tmps.getD i undef := fun i hi => by rw [← ha2, put_off (d := 8) (show (8 : Nat) ≠ i by omega)]; exact o1 i hi
  simp only [ha2, wpOps, Exit.then]
  refine wp_cond_false (c := .tmp 8) e82 ?_
  rw [cat_else_eq]
  refine wp_seq (wp_region ?_)
  have hu79 : Tryd.prog.underlying 79 = some (.int .i64) := by kernel_rfl
  have r5 : (execOp a2.eval ⟨some 9, .typeAssert (.tmp 6) 20 79 true, 0, "regex.go:341", #[], none⟩).run Tryd.prog w = .ok (.value (.tuple #[.int .i64 n, .bool true])) w := by
    simp [execOp, Act.eval, e62, Instr.typeAssert, underlying, hu79]
  obtain ⟨a3, ha3⟩ : ∃ a3, a2.put (some 9) (.tuple #[.int .i64 n, .bool true]) = a3 := ⟨_, rfl⟩
  have z3 : a3.tmps.size = 14 := by rw [← ha3, put_size]; exact z2
  have d3 : a3.defers = [] := by rw [← ha3, put_defers]; exact d2
  have e93 : a3.tmps.getD 9 undef = .tuple #[.int .i64 n, .bool true] := by rw [← ha3]; exact put_at (d := 9) (by rw [z2]; decide)
  have o3 : ∀ i, i < 3 → a3.tmps.getD i undef = a0.tmps.getD i undef := fun i hi => by rw [← ha3, put_off (d := 9) (show (9 : Nat) ≠ i by omega)]; exact o2 i hi
  have r5b : (execOp a3.eval ⟨some 10, .extract (.tmp 9) 1, 4, "regex.go:341", #[{ on := 0, ground := .data }], none⟩).run Tryd.prog w = .ok (.value (.bool true)) w := by
    simp [execOp, Act.eval, e93, Instr.extract]
  obtain ⟨a4, ha4⟩ : ∃ a4, a3.put (some 10) (.bool true) = a4 := ⟨_, rfl⟩
  have z4 : a4.tmps.size = 14 := by rw [← ha4, put_size]; exact z3
  have d4 : a4.defers = [] := by rw [← ha4, put_defers]; exact d3
  have e94 : a4.tmps.getD 9 undef = .tuple #[.int .i64 n, .bool true] := by rw [← ha4, put_off (by decide)]; exact e93
  have e104 : a4.tmps.getD 10 undef = .bool true := by rw [← ha4]; exact put_at (d := 10) (by rw [z3]; decide)
  have o4 : ∀ i, i < 3 → a4.tmps.getD i undef = a0.tmps.getD i undef := fun i hi => by rw [← ha4, put_off (d := 10) (show (10 : Nat) ≠ i by omega)]; exact o3 i hi
  have r5c : (execOp a4.eval ⟨some 11, .extract (.tmp 9) 0, 79, "regex.go:341", #[{ on := 0, ground := .data }], none⟩).run Tryd.prog w = .ok (.value (.int .i64 n)) w := by
    simp [execOp, Act.eval, e94, Instr.extract]
  obtain ⟨a5, ha5⟩ : ∃ a5, a4.put (some 11) (.int .i64 n) = a5 := ⟨_, rfl⟩
  have z5 : a5.tmps.size = 14 := by rw [← ha5, put_size]; exact z4
  have d5 : a5.defers = [] := by rw [← ha5, put_defers]; exact d4
  have e115 : a5.tmps.getD 11 undef = .int .i64 n := by rw [← ha5]; exact put_at (d := 11) (by rw [z4]; decide)
  have e105 : a5.tmps.getD 10 undef = .bool true := by rw [← ha5, put_off (by decide)]; exact e104
  have o5 : ∀ i, i < 3 → a5.tmps.getD i undef = a0.tmps.getD i undef := fun i hi => by rw [← ha5, put_off (d := 11) (show (11 : Nat) ≠ i by omega)]; exact o4 i hi
  show wpOps _ _ _ [0, 1, 2] _ _
  simp only [wpOps, List.getElem?_toArray, List.getElem?_cons_zero, List.getElem?_cons_succ, Region.wanted, if_true]
  left
  unfold Oper.wp
  rw [r5]
  show Oper.upon _ _ a2 _ _ (.ok (.value (.tuple #[.int .i64 n, .bool true])) w)
  rw [Oper.upon_value]
  simp only [ha3]
  left
  show Oper.upon _ _ a3 _ _ (Sem.run _ (execOp a3.eval _) w)
  rw [r5b, Oper.upon_value]
  simp only [ha4]
  left
  show Oper.upon _ _ a4 _ _ (Sem.run _ (execOp a4.eval _) w)
  rw [r5c, Oper.upon_value]
  simp only [ha5, Exit.then]
  refine wp_cond_true (c := .tmp 10) e105 ?_
  refine wp_seq (wp_region ?_)
  have r6 : (execOp a5.eval ⟨some 4, .assign (.tmp 11), 79, "regex.go:341", #[], none⟩).run Tryd.prog w = .ok (.value (.int .i64 n)) w := by
    simp [execOp, Act.eval, e115]
  obtain ⟨a6, ha6⟩ : ∃ a6, a5.put (some 4) (.int .i64 n) = a6 := ⟨_, rfl⟩
  have z6 : a6.tmps.size = 14 := by rw [← ha6, put_size]; exact z5
  have d6 : a6.defers = [] := by rw [← ha6, put_defers]; exact d5
  have e46 : a6.tmps.getD 4 undef = .int .i64 n := by rw [← ha6]; exact put_at (d := 4) (by rw [z5]; decide)
  have o6 : ∀ i, i < 3 → a6.tmps.getD i undef = a0.tmps.getD i undef := fun i hi => by rw [← ha6, put_off (d := 4) (show (4 : Nat) ≠ i by omega)]; exact o5 i hi
  show wpOps _ _ _ [0] _ _
  simp only [wpOps, List.getElem?_toArray, List.getElem?_cons_zero, Region.wanted, if_true]
  left
  unfold Oper.wp
  rw [r6, Oper.upon_value]
  simp only [ha6, Exit.then]
  rw [cat_R7_at]
  refine wp_region ?_
  have r7 : (execOp a6.eval ⟨some 12, .build 24 #[], 24, "regex.go:344", cat_af 0, none⟩).run Tryd.prog w = .ok (.value (.agg #[nilS])) w := by
    kernel_rfl
  obtain ⟨a7, ha7⟩ : ∃ a7, a6.put (some 12) (.agg #[nilS]) = a7 := ⟨_, rfl⟩
  have z7 : a7.tmps.size = 14 := by rw [← ha7, put_size]; exact z6
  have d7 : a7.defers = [] := by rw [← ha7, put_defers]; exact d6
  have e47 : a7.tmps.getD 4 undef = .int .i64 n := by rw [← ha7, put_off (by decide)]; exact e46
  have e127 : a7.tmps.getD 12 undef = .agg #[nilS] := by rw [← ha7]; exact put_at (d := 12) (by rw [z6]; decide)
  have o7 : ∀ i, i < 3 → a7.tmps.getD i undef = a0.tmps.getD i undef := fun i hi => by rw [← ha7, put_off (d := 12) (show (12 : Nat) ≠ i by omega)]; exact o6 i hi
  have r8 : (execOp a7.eval ⟨some 13, .move (.tmp 4), 79, "regex.go:344", cat_af 1, none⟩).run Tryd.prog w = .ok (.value (.int .i64 n)) w := by
    simp [execOp, Act.eval, e47]
  obtain ⟨a8, ha8⟩ : ∃ a8, a7.put (some 13) (.int .i64 n) = a8 := ⟨_, rfl⟩
  have d8 : a8.defers = [] := by rw [← ha8, put_defers]; exact d7
  have e128 : a8.tmps.getD 12 undef = .agg #[nilS] := by rw [← ha8, put_off (by decide)]; exact e127
  have e138 : a8.tmps.getD 13 undef = .int .i64 n := by rw [← ha8]; exact put_at (d := 13) (by rw [z7]; decide)
  have o8 : ∀ i, i < 3 → a8.tmps.getD i undef = a0.tmps.getD i undef := fun i hi => by rw [← ha8, put_off (d := 13) (show (13 : Nat) ≠ i by omega)]; exact o7 i hi
  have v0 : VRel m (ptr p2 0) (a8.tmps.getD 0 undef) := by rw [o8 0 (by decide)]; exact hrel 0 _ rfl
  have v1 : VRel m (ptr p3 0) (a8.tmps.getD 1 undef) := by rw [o8 1 (by decide)]; exact hrel 1 _ rfl
  have v2 : VRel m (ptr p4 0) (a8.tmps.getD 2 undef) := by rw [o8 2 (by decide)]; exact hrel 2 _ rfl
  obtain ⟨_, w1, q1, t1⟩ := stV_sound (P := Tryd.prog) (t := 24) hr v0 (VRel.ofFlat (v := .agg #[nilS]) (by simp [flat, flat1, nilS])) (by kernel_rfl) s1
  obtain ⟨_, w2, q2, t2⟩ := stV_sound (P := Tryd.prog) (t := 3) t1.rel v1 (VRel.flat (v := .int .i64 n) rfl) (by kernel_rfl) s2
  obtain ⟨_, w3, q3, t3⟩ := stV_sound (P := Tryd.prog) (t := 26) t2.rel v2 (VRel.flat (v := .int .i64 90) rfl) (by kernel_rfl) s3
  have st : ∀ (a : Act) (d : Option Tmp) (t : TypeId) (x y : Operand) (ty : TypeId) (pos : String) (af : Array Edge) (w w' : World), (Instr.storeAt t (a.eval x) (a.eval y)).run Tryd.prog w = .ok () w' → (execOp a.eval ⟨d, .store t x y, ty, pos, af, none⟩).run Tryd.prog w = .ok .skip w' := fun a d t x y ty pos af w w' h => by
    simp [execOp, h]
  show wpOps _ _ _ [0, 1, 2, 3, 4] _ _
  simp only [wpOps, List.getElem?_toArray, List.getElem?_cons_zero, List.getElem?_cons_succ, Region.wanted, if_true]
  left
  unfold Oper.wp
  rw [r7, Oper.upon_value]
  simp only [ha7]
  left
  show Oper.upon _ _ a7 _ _ (Sem.run _ (execOp a7.eval _) w)
  rw [r8, Oper.upon_value]
  simp only [ha8]
  left
  show Oper.upon _ _ a8 _ _ (Sem.run _ (execOp a8.eval _) w)
  rw [st a8 none 24 (.tmp 0) (.tmp 12) 0 "regex.go:344" (cat_af 2) w w1 (by show (Instr.storeAt 24 (a8.tmps.getD 0 undef) (a8.tmps.getD 12 undef)).run _ _ = _; rw [e128]; exact q1), Oper.upon_skip]
  left
  show Oper.upon _ _ a8 _ _ (Sem.run _ (execOp a8.eval _) w1)
  rw [st a8 none 3 (.tmp 1) (.tmp 13) 0 "regex.go:344" (cat_af 3) w1 w2 (by show (Instr.storeAt 3 (a8.tmps.getD 1 undef) (a8.tmps.getD 13 undef)).run _ _ = _; rw [e138]; exact q2), Oper.upon_skip]
  left
  show Oper.upon _ _ a8 _ _ (Sem.run _ (execOp a8.eval _) w2)
  rw [st a8 none 26 (.tmp 2) (.const (.int .i64 90)) 0 "regex.go:344" (cat_af 4) w2 w3 q3, Oper.upon_skip]
  refine ⟨d8, _, rfl, ?_⟩
  exact ⟨_, cat_res _ _, ⟨_, rfl⟩, rfl, (t1.trans t2).trans t3⟩
end Go.Eng

set_option linter.unusedVariables false
set_option linter.unusedSimpArgs false
set_option linter.unusedSectionVars false
set_option maxRecDepth 100000
namespace Go.Eng
open Go Go.Proofs

noncomputable def pc0 : Code := cAt f24_c [0]
noncomputable def pc1 : Code := cAt f24_c [1, 0]
theorem pc_split : Tryd.f24.body = some (.seq pc0 (.seq pc1 (.seq (.region 3 #[⟨some 10, .makeFunc (.func 45) #[] #[.tmp 2, .tmp 3, .tmp 4], 1, "regex.go:340", #[], none⟩, ⟨none, .defer ⟨.value (.tmp 10), #[], #[]⟩, 0, "regex.go:340", #[{ on := 0, ground := .data }], none⟩] false) rest_c))) := by kernel_rfl
def tup4 : Kont (Value × Heap) := fun e env H => match e with
  | .normal => some (.tuple #[env 0, env 2, env 3, env 4], H)
  | _ => none
theorem pc0_main (S : Seam (Value × Heap)) (C : CallF) (n : Nat) (env : Env) (H : Heap) : acodeK S Tryd.prog C n 41 pc0 env H tup4 =
  S.b (newV [(.slice none 0 0)] H) fun x2 H2 => S.b (newV [(.int .i64 0)] H2) fun x3 H4 => S.b (newV [(.int .i64 0)] H4) fun x4 H6 => some (.tuple #[env 0, x2, x3, x4], H6) := by kernel_rfl
theorem pc1_main (S : Seam (Value × Heap)) (C : CallF) (n : Nat) (env : Env) (H : Heap) : acodeK S Tryd.prog C n 41 pc1 env H tup4 =
  S.b (up (lenStr (env 0)) H) fun x7 H8 => S.b (up (binB Tryd.prog .gtr 3 x7 (.int .i64 1024)) H8) fun x8 H10 =>
  S.i x8
  (S.b (bld [(.slice none 0 0)] [] H10) fun x9 H12 => S.b (stV 1 (env 2) x9 H12) fun _ H13 => S.b (stV 1 (env 3) (.int .i64 0) H13) fun _ H14 => S.b (stV 1 (env 4) (.int .i64 5) H14) fun _ H15 => none)
  (some (.tuple #[env 0, env 2, env 3, env 4], H10)) := by kernel_rfl
def box3 (H : Heap) : Heap := ((H.push ⟨[nilS], 1, true⟩).push ⟨[.int .i64 0], 1, true⟩).push ⟨[.int .i64 0], 1, true⟩
def ParseRun (T : List UInt8) (H : Heap) (v : Value) (H' : Heap) : Prop := ∃ n r, rest24 realP (AP n) n (.string (bs T)) (ptr H.n 0) (ptr (H.n + 1) 0) (ptr (H.n + 2) 0) (box3 H) = some r ∧
  ((isP r.1 = false ∧ v = r.1 ∧ H' = r.2) ∨ ∃ k H1 H2, r.1 = .iface 79 (.int .i64 k) ∧ stV 1 (ptr H.n 0) (.agg #[nilS]) r.2 = some (undef, H1) ∧ stV 1 (ptr (H.n + 1) 0) (.int .i64 k) H1 = some (undef, H2) ∧
    stV 1 (ptr (H.n + 2) 0) (.int .i64 90) H2 = some (undef, H') ∧ v = .tuple #[.agg #[nilS], .int .i64 k, .int .i64 90] ∧
    ldA 1 (ptr H.n 0) H' = some (.agg #[nilS], H') ∧ ldC (ptr (H.n + 1) 0) H' = some (.int .i64 k, H') ∧ ldC (ptr (H.n + 2) 0) H' = some (.int .i64 90, H'))
theorem ER_env0 {m : Mp} {args args' : List Value} (ha : LRel m args args') (k : Nat) : ERel m (env0 args) { tmps := args'.toArray ++ Array.replicate (k - args'.toArray.size) undef, defers := [] } := by
  intro t
  simp only [env0, Array.getD_eq_getD_getElem?, List.getD_eq_getElem?_getD]
  by_cases ht : t < args'.length
  · have ht' : t < args.length := by rw [ha.1]; exact ht
    rw [Array.getElem?_append_left (by simpa using ht)]
    simp only [List.getElem?_toArray, List.getElem?_eq_getElem ht, List.getElem?_eq_getElem ht', Option.getD_some]
    exact ha.2 t _ _ (List.getElem?_eq_getElem ht') (List.getElem?_eq_getElem ht)
  · have ht' : ¬ t < args.length := by rw [ha.1]; exact ht
    rw [List.getElem?_eq_none (Nat.le_of_not_lt ht'), Array.getElem?_append_right (by simpa using Nat.le_of_not_lt ht)]
    have : ((Array.replicate (k - args'.toArray.size) undef)[t - args'.toArray.size]?).getD undef = undef := by
      rw [Array.getElem?_replicate]; split <;> rfl
    rw [this]
    exact VRel.undef
theorem noExtP_sound (n : Nat) : CSoundP Tryd.prog true panF (AP n) := acallP_sound (by kernel_rfl) (noExt_sound _ _) noExt_mono fail_sound n
theorem parse_run {T : List UInt8} {H : Heap} {v : Value} {H' : Heap} (hT : T.length ≤ 1024) (hrun : ParseRun T H v H') {m : Mp} {w : World} {args' : List Value} (ha : LRel m [.string (bs T)] args') (hr : HRel m H w) (hlow : MLow m H.n) (hg : GOK Tryd.prog true m) :
    Calls Tryd.prog 24 args'.toArray w fun e w' => ∃ m' v', e = .returned v' ∧ VRel m' v v' ∧ Step m H w m' H' w' := by
  obtain ⟨n, r, hrest, hcase⟩ := hrun
  have hl1 : args'.length = 1 := by rw [← ha.1]; rfl
  have hnt : Tryd.f24.ntmps = 41 := by kernel_rfl
  have hm : Tryd.prog.follows .mixedOrders = true := by kernel_rfl
  refine calls_of_wp_defers Tryd.func24 pc_split ?_
  have hER := ER_env0 ha Tryd.f24.ntmps
  have hsz : ({ tmps := args'.toArray ++ Array.replicate (Tryd.f24.ntmps - args'.toArray.size) undef, defers := [] } : Act).tmps.size = 41 := by
    simp [hl1, hnt]
  obtain ⟨a0, ha0⟩ : ∃ a0, ({ tmps := args'.toArray ++ Array.replicate (Tryd.f24.ntmps - args'.toArray.size) undef, defers := [] } : Act) = a0 := ⟨_, rfl⟩
  have hd0 : a0.defers = [] := by rw [← ha0]
  rw [ha0] at hER hsz ⊢
  have h0 : acodeK realP Tryd.prog (AP n) n 41 pc0 (env0 [.string (bs T)]) H tup4 = some (.tuple #[.string (bs T), ptr H.n 0, ptr (H.n + 1) 0, ptr (H.n + 2) 0], box3 H) := by
    rw [pc0_main]; rfl
  refine wp_seq (wp_mono (acodeP_sound (noExtP_sound n) (cut1_mono noExt_mono n) hm pc0 h0 hg hER hr hlow (by kernel_rfl) (by kernel_rfl) hsz) fun x a1 w1 hp => ?_)
  rcases hp with ⟨e, env1, H1, m1, rfl, q0, q1, q2, q3, q4, _⟩ | ⟨t, u, m1, env1, q0, _⟩
  case inr => cases q0
  cases e <;> simp only [tup4] at q0 <;> first | (cases q0; done) | skip
  simp only [Option.some.injEq, Prod.mk.injEq, Value.tuple.injEq] at q0
  obtain ⟨q0, rfl⟩ := q0
  have e10 : env1 0 = .string (bs T) := by have := congrArg (fun a : Array Value => a[0]?) q0; simpa using this
  have e12 : env1 2 = ptr H.n 0 := by have := congrArg (fun a : Array Value => a[1]?) q0; simpa using this
  have e13 : env1 3 = ptr (H.n + 1) 0 := by have := congrArg (fun a : Array Value => a[2]?) q0; simpa using this
  have e14 : env1 4 = ptr (H.n + 2) 0 := by have := congrArg (fun a : Array Value => a[3]?) q0; simpa using this
  show Code.wp _ _ _ _ _
  have hlow1 := q2.keepLow hlow
  have hg1 := hg.mono (q2.mle hlow)
  have h1 : acodeK realP Tryd.prog (AP n) n 41 pc1 env1 (box3 H) tup4 = some (.tuple #[.string (bs T), ptr H.n 0, ptr (H.n + 1) 0, ptr (H.n + 2) 0], box3 H) := by
    rw [pc1_main, e10, e12, e13, e14]
    have e : ((T.length : Int) > 1024) = False := eq_false (by omega)
    simp only [ruA, ruB, ruC, ruE, ruD, lenStr, Int.reduceBEq, Int.reduceBNe, ruP, bs_size, e]
  refine wp_seq (wp_mono (acodeP_sound (noExtP_sound n) (cut1_mono noExt_mono n) hm pc1 h1 hg1 q1 q2.rel hlow1 (by kernel_rfl) (by kernel_rfl) q3) fun x a2 w2 hp => ?_)
  rcases hp with ⟨e, env2, H2, m2, rfl, s0, s1, s2, s3, s4, _⟩ | ⟨t, u, m2, env2, s0, _⟩
  case inr => cases s0
  cases e <;> simp only [tup4] at s0 <;> first | (cases s0; done) | skip
  simp only [Option.some.injEq, Prod.mk.injEq, Value.tuple.injEq] at s0
  obtain ⟨s0, rfl⟩ := s0
  have e20 : env2 0 = .string (bs T) := by have := congrArg (fun a : Array Value => a[0]?) s0; simpa using this
  have e22 : env2 2 = ptr H.n 0 := by have := congrArg (fun a : Array Value => a[1]?) s0; simpa using this
  have e23 : env2 3 = ptr (H.n + 1) 0 := by have := congrArg (fun a : Array Value => a[2]?) s0; simpa using this
  have e24 : env2 4 = ptr (H.n + 2) 0 := by have := congrArg (fun a : Array Value => a[3]?) s0; simpa using this
  have st2 : Step m H w m2 (box3 H) w2 := q2.trans s2
  have hlow2 := st2.keepLow hlow
  have hg2 := hg.mono (st2.mle hlow)
  show Code.wp _ _ _ _ _
  have hd2 : a2.defers = [] := by rw [s4, q4]; exact hd0
  refine wp_seq (wp_region ?_)
  obtain ⟨a3, ha3⟩ : ∃ a3, a2.put (some 10) (.func (.func 45) #[] #[a2.tmps.getD 2 undef, a2.tmps.getD 3 undef, a2.tmps.getD 4 undef]) = a3 := ⟨_, rfl⟩
  have z3 : a3.tmps.size = 41 := by rw [← ha3, put_size]; exact s3
  have d3 : a3.defers = [] := by rw [← ha3, put_defers]; exact hd2
  have e103 : a3.tmps.getD 10 undef = .func (.func 45) #[] #[a2.tmps.getD 2 undef, a2.tmps.getD 3 undef, a2.tmps.getD 4 undef] := by rw [← ha3]; exact put_at (d := 10) (by rw [s3]; decide)
  have r1 : (execOp a2.eval ⟨some 10, .makeFunc (.func 45) #[] #[.tmp 2, .tmp 3, .tmp 4], 1, "regex.go:340", #[], none⟩).run Tryd.prog w2 = .ok (.value (.func (.func 45) #[] #[a2.tmps.getD 2 undef, a2.tmps.getD 3 undef, a2.tmps.getD 4 undef])) w2 := by
    simp [execOp, Act.eval, Instr.makeFunc]
  have r2 : (execOp a3.eval ⟨none, .defer ⟨.value (.tmp 10), #[], #[]⟩, 0, "regex.go:340", #[{ on := 0, ground := .data }], none⟩).run Tryd.prog w2 = .ok (.defer { target := .fn (.func 45) #[a2.tmps.getD 2 undef, a2.tmps.getD 3 undef, a2.tmps.getD 4 undef], args := #[] }) w2 := by
    simp [execOp, resolve, Act.eval, e103, Deferred.ofValue]
  show wpOps _ _ _ [0, 1] _ _
  simp only [wpOps, List.getElem?_toArray, List.getElem?_cons_zero, List.getElem?_cons_succ, Region.wanted, if_true]
  left
  unfold Oper.wp
  rw [r1, Oper.upon_value]
  simp only [ha3]
  left
  show Oper.upon _ _ a3 _ _ (Sem.run _ (execOp a3.eval _) w2)
  rw [r2, Oper.upon_defer, d3]
  simp only [Exit.then]
  obtain ⟨a4, ha4⟩ : ∃ a4, ({ a3 with defers := [{ target := .fn (.func 45) #[a2.tmps.getD 2 undef, a2.tmps.getD 3 undef, a2.tmps.getD 4 undef], args := #[] }] } : Act).put none undef = a4 := ⟨_, rfl⟩
  have z4 : a4.tmps.size = 41 := by rw [← ha4, put_size]; exact z3
  have d4 : a4.defers = [{ target := .fn (.func 45) #[a2.tmps.getD 2 undef, a2.tmps.getD 3 undef, a2.tmps.getD 4 undef], args := #[] }] := by rw [← ha4, put_defers]
  have hl3 : LRel m2 [ptr H.n 0, ptr (H.n + 1) 0, ptr (H.n + 2) 0] (#[a2.tmps.getD 2 undef, a2.tmps.getD 3 undef, a2.tmps.getD 4 undef] : Array Value).toList :=
    LRel.cons (by have := s1 2; rw [e22] at this; exact this) (LRel.cons (by have := s1 3; rw [e23] at this; exact this) (LRel.cons (by have := s1 4; rw [e24] at this; exact this) LRel.nil))
  have hE4 : ERel m2 (putE 41 env2 (some 10) (.func (.func 45) #[] #[ptr H.n 0, ptr (H.n + 1) 0, ptr (H.n + 2) 0])) a4 := by
    have h3 : ERel m2 (putE 41 env2 (some 10) (.func (.func 45) #[] #[ptr H.n 0, ptr (H.n + 1) 0, ptr (H.n + 2) 0])) a3 := by
      rw [← ha3]
      exact ERel.put s1 (.func rfl hl3.1 (fun i v v' h1 h2 => by simp at h1) hl3.2) s3
    intro t
    have := h3 t
    rw [← ha4]
    exact this
  obtain ⟨env4, he4⟩ : ∃ env4, putE 41 env2 (some 10) (.func (.func 45) #[] #[ptr H.n 0, ptr (H.n + 1) 0, ptr (H.n + 2) 0]) = env4 := ⟨_, rfl⟩
  have e40 : env4 0 = .string (bs T) := by rw [← he4]; exact e20
  have e42 : env4 2 = ptr H.n 0 := by rw [← he4]; exact e22
  have e43 : env4 3 = ptr (H.n + 1) 0 := by rw [← he4]; exact e23
  have e44 : env4 4 = ptr (H.n + 2) 0 := by rw [← he4]; exact e24
  rw [ha4]
  rw [he4] at hE4
  have h2 : acodeK realP Tryd.prog (AP n) n 41 rest_c env4 (box3 H) (fin Tryd.prog Tryd.f24) = some r := by
    rw [rest_main, e40, e42, e43, e44]
    exact hrest
  refine wp_mono (acodeP_sound (noExtP_sound n) (cut1_mono noExt_mono n) hm rest_c h2 hg2 hE4 s2.rel hlow2 (by kernel_rfl) (by kernel_rfl) z4) fun x a5 w5 hp => ?_
  have hinv : ∀ w : World, (invoke (.fn (.func 45) #[a2.tmps.getD 2 undef, a2.tmps.getD 3 undef, a2.tmps.getD 4 undef]) #[]).run Tryd.prog w = .ok (.enter 45 #[a2.tmps.getD 2 undef, a2.tmps.getD 3 undef, a2.tmps.getD 4 undef]) w := fun w => by
    have := enters (P := Tryd.prog) Tryd.func45 (by kernel_rfl) (by kernel_rfl) #[a2.tmps.getD 2 undef, a2.tmps.getD 3 undef, a2.tmps.getD 4 undef] w
    exact this
  rcases hp with ⟨e, env5, H5, m5, rfl, t0, t1, t2, t3, t4, t5⟩ | ⟨t, u, m5, env5, t0, hu, rfl, t1, t2, t3, t4, t5⟩
  · have fin5 : Eng.results Tryd.prog Tryd.f24 env5 H5 = some r → Leaves Tryd.prog Tryd.f24 a5.tmps (fun e w' => ∃ m' v', e = .returned v' ∧ VRel m' v v' ∧ Step m H w m' H' w') a5.defers .returning w5 := fun hres => by
      obtain ⟨hH, v', r1, r2⟩ := results_sound (v := r.1) (H' := r.2) t1 t2.rel (by rw [hres])
      rw [t4, d4]
      refine leaves_cons (by simp) (hinv _) ((catch_ret w5).mono fun e u' w' ⟨⟨v0, h1⟩, h2, h3⟩ => ?_)
      subst h1; subst h2; subst h3
      refine ⟨v', r1, m5, v', rfl, ?_, ?_⟩
      · rcases hcase with ⟨_, rfl, _⟩ | ⟨k, H1, H2, hk, _⟩
        · exact r2
        · rw [hk] at r2; exact absurd r2.notP (by simp [isP])
      · rcases hcase with ⟨_, _, rfl⟩ | ⟨k, H1, H2, hk, _⟩
        · rw [hH]; exact st2.trans t2
        · rw [hk] at r2; exact absurd r2.notP (by simp [isP])
    cases e with
    | exit id => cases t0
    | normal => exact fin5 t0
    | ret => exact fin5 t0
  · rcases hcase with ⟨hp, _⟩ | ⟨k, H1, H2, hk, c1, c2, c3, rfl, c4, c5, c6⟩
    · rw [t0] at hp; cases hp
    · rw [t0] at hk
      injection hk with hk1 hk2
      subst hk1; subst hk2
      show Leaves _ _ _ _ a5.defers (.panicking [entry 79 (.int .i64 k)]) w5
      rw [t4, d4]
      have hle := t2.mle hlow2
      refine leaves_cons (by simp) (hinv _) ((catch_pan (hl3.mono hle) t2.rel c1 c2 c3).mono fun e u' w' ⟨⟨v0, h1⟩, h2, h3⟩ => ?_)
      subst h1
      show Leaves _ _ _ _ [] (settle u') w'
      rw [h2]
      have st5 : Step m H w m5 H' w' := (st2.trans t2).trans h3
      have f0 : ∀ t, wr rest_c t = false → env5 t = env4 t := t5
      have g2 : env5 2 = ptr H.n 0 := by rw [f0 2 (by kernel_rfl)]; exact e42
      have g3 : env5 3 = ptr (H.n + 1) 0 := by rw [f0 3 (by kernel_rfl)]; exact e43
      have g4 : env5 4 = ptr (H.n + 2) 0 := by rw [f0 4 (by kernel_rfl)]; exact e44
      have hres : Eng.results Tryd.prog Tryd.f24 env5 H' = some (.tuple #[.agg #[nilS], .int .i64 k, .int .i64 90], H') := by
        have : Eng.results Tryd.prog Tryd.f24 env5 H' = (resM [(ldA 1 (env5 2) H').map (·.1), (ldC (env5 3) H').map (·.1), (ldC (env5 4) H').map (·.1)]).map fun l => (one l, H') := by kernel_rfl
        rw [this, g2, g3, g4, c4, c5, c6]
        rfl
      obtain ⟨_, v', r1, r2⟩ := results_sound t1 st5.rel hres
      exact ⟨v', r1, m5, v', rfl, r2, st5⟩
end Go.Eng

set_option linter.unusedVariables false
set_option linter.unusedSimpArgs false
set_option linter.unusedSectionVars false
set_option maxRecDepth 100000
namespace Go.Eng
open Go Go.Proofs

def ParsePost (H : Heap) (T : List UInt8) (v : Value) (H' : Heap) : Prop := Keep (all H) H H' ∧ Mono H H' ∧ match parseR (U T) with
  | .ok t => ∃ vl, v = .tuple #[.agg #[vl], .int .i64 0, .int .i64 0] ∧ Acc (all H) H' 7 vl t.size (NDS (t.flat 0))
  | .big => v = .tuple #[.agg #[nilS], .int .i64 0, .int .i64 5]
  | .bad k => v = .tuple #[.agg #[nilS], .int .i64 (k : Int), .int .i64 90]
def ParseAny (T : List UInt8) (H : Heap) (v : Value) (H' : Heap) : Prop := (T.length ≤ 1024 ∧ ParseRun T H v H') ∨ ∃ n, acall Tryd.prog true noExt n 24 [.string (bs T)] H = some (v, H')
theorem box3_mono (H : Heap) : Mono H (box3 H) := ((Mono.push _ _).trans (Mono.push _ _)).trans (Mono.push _ _)
theorem rest24_mono {n : Nat} {x0 x2 x3 x4 : Value} {H : Heap} {r : Value × Heap} (h : rest24 realP (AP n) n x0 x2 x3 x4 H = some r) : Mono H r.2 := by
  have h1 := rest_main realP (AP n) n (fun t => if t = 0 then x0 else if t = 2 then x2 else if t = 3 then x3 else x4) H
  have h2 : rest24 realP (AP n) n ((fun t : Nat => if t = 0 then x0 else if t = 2 then x2 else if t = 3 then x3 else x4) 0) ((fun t : Nat => if t = 0 then x0 else if t = 2 then x2 else if t = 3 then x3 else x4) 2) ((fun t : Nat => if t = 0 then x0 else if t = 2 then x2 else if t = 3 then x3 else x4) 3) ((fun t : Nat => if t = 0 then x0 else if t = 2 then x2 else if t = 3 then x3 else x4) 4) H = some r := h
  rw [← h1] at h2
  refine acodeKP_mono (acallP_mono noExt_mono (fun f g hfg => ?_) n) rest_c h2 fun e env H1 h => ?_
  · intro f' args H v H' h
    unfold EPf at hfg
    split at hfg
    case isFalse => cases hfg
    injection hfg with hfg
    subst hfg
    have h : gFail args H = some (v, H') := h
    unfold gFail at h
    split at h
    · split at h
      · simp only [Option.some.injEq, Prod.mk.injEq] at h
        rw [h.2]; exact Mono.refl _
      · cases h
    · cases h
  · have fin : ∀ {env : Env} {H1 : Heap}, Eng.results Tryd.prog Tryd.f24 env H1 = some r → r.2 = H1 := fun hr => by
      unfold Eng.results at hr
      simp only [Option.map_eq_some_iff] at hr
      obtain ⟨_, _, hr⟩ := hr
      rw [← hr]
    cases e with
    | normal => rw [fin h]; exact Mono.refl _
    | ret => rw [fin h]; exact Mono.refl _
    | exit id => cases h
theorem keep_box3 {H H' : Heap} (h : Keep (fun q => q < (box3 H).n ∧ q ≠ H.n ∧ q ≠ H.n + 1 ∧ q ≠ H.n + 2) (box3 H) H') : Keep (all H) H H' := by
  refine ⟨by have := h.1; simp only [box3, Heap.push] at this ⊢; omega, fun b hb => ?_⟩
  have hb' : b < H.n := hb
  rw [h.2 b ⟨by simp only [box3, Heap.push]; omega, by omega, by omega, by omega⟩]
  unfold box3
  rw [push_lt (by simp only [Heap.push]; omega), push_lt (by simp only [Heap.push]; omega), push_lt hb']
theorem parse_any {H : Heap} {T : List UInt8} (hL : Lt (all H) H) : ∃ v H', ParseAny T H v H' ∧ ParsePost H T v H' := by
  by_cases hT : T.length ≤ 1024
  · have g2 : (box3 H).get H.n = some ⟨[nilS], 1, true⟩ := by
      unfold box3
      rw [push_lt (by simp only [Heap.push]; omega), push_lt (by simp only [Heap.push]; omega), push_self]
    have g3 : (box3 H).get (H.n + 1) = some ⟨[.int .i64 0], 1, true⟩ := by
      unfold box3
      rw [push_lt (by simp only [Heap.push]; omega)]
      exact push_self (H := H.push ⟨[nilS], 1, true⟩)
    have g4 : (box3 H).get (H.n + 2) = some ⟨[.int .i64 0], 1, true⟩ := push_self (H := (H.push ⟨[nilS], 1, true⟩).push ⟨[.int .i64 0], 1, true⟩)
    have hn : (box3 H).n = H.n + 3 := rfl
    have hk0 : Keep (all H) H (box3 H) := ⟨by rw [hn]; omega, fun b hb => by
      have hb' : b < H.n := hb
      unfold box3
      rw [push_lt (by simp only [Heap.push]; omega), push_lt (by simp only [Heap.push]; omega), push_lt hb']⟩
    have hL3 : Lt (all (box3 H)) (box3 H) := (hL.keep hk0).mono fun b hb => by have : b < H.n := hb; show b < (box3 H).n; rw [hn]; omega
    have h := rest_ok hT hL3 (p2 := H.n) (p3 := H.n + 1) (p4 := H.n + 2) (by omega) (by omega) (by omega) (by rw [hn]; omega) (by rw [hn]; omega) (by rw [hn]; omega) g2 g3 g4
    unfold ParsePost
    cases hp : parseR (U T) with
    | ok t =>
      rw [hp] at h
      obtain ⟨vl, H', ⟨N, hN⟩, q2, q3⟩ := h
      have hr := hN N N (Nat.le_refl _) (Nat.le_refl _)
      exact ⟨_, H', .inl ⟨hT, N, _, hr, .inl ⟨rfl, rfl, rfl⟩⟩, keep_box3 q2, (box3_mono H).trans (rest24_mono hr), vl, rfl, q3.low fun b hb => by have : b < H.n := hb; show b < (box3 H).n; rw [hn]; omega⟩
    | big =>
      rw [hp] at h
      obtain ⟨H', ⟨N, hN⟩, q2⟩ := h
      have hr := hN N N (Nat.le_refl _) (Nat.le_refl _)
      exact ⟨_, H', .inl ⟨hT, N, _, hr, .inl ⟨rfl, rfl, rfl⟩⟩, keep_box3 q2, (box3_mono H).trans (rest24_mono hr), rfl⟩
    | bad k =>
      rw [hp] at h
      obtain ⟨H', ⟨N, hN⟩, q2⟩ := h
      have hr := hN N N (Nat.le_refl _) (Nat.le_refl _)
      have f2 : H'.get H.n = some ⟨[nilS], 1, true⟩ := by rw [q2.2 _ (show H.n < (box3 H).n by rw [hn]; omega)]; exact g2
      have f3 : H'.get (H.n + 1) = some ⟨[.int .i64 0], 1, true⟩ := by rw [q2.2 _ (show H.n + 1 < (box3 H).n by rw [hn]; omega)]; exact g3
      have f4 : H'.get (H.n + 2) = some ⟨[.int .i64 0], 1, true⟩ := by rw [q2.2 _ (show H.n + 2 < (box3 H).n by rw [hn]; omega)]; exact g4
      have s1 : stV 1 (ptr H.n 0) (.agg #[nilS]) H' = some (undef, H'.upd H.n (some ⟨[nilS], 1, true⟩)) := stG (ds := [nilS]) f2 rfl rfl rfl
      have s2 : stV 1 (ptr (H.n + 1) 0) (.int .i64 (k : Int)) (H'.upd H.n (some ⟨[nilS], 1, true⟩)) = some (undef, (H'.upd H.n (some ⟨[nilS], 1, true⟩)).upd (H.n + 1) (some ⟨[.int .i64 (k : Int)], 1, true⟩)) := by
        rw [stV1_box (by rw [upd_ne (by omega)]; exact f3) (by show 0 < 1; omega) rfl rfl]; rfl
      have s3 : stV 1 (ptr (H.n + 2) 0) (.int .i64 90) ((H'.upd H.n (some ⟨[nilS], 1, true⟩)).upd (H.n + 1) (some ⟨[.int .i64 (k : Int)], 1, true⟩)) = some (undef, ((H'.upd H.n (some ⟨[nilS], 1, true⟩)).upd (H.n + 1) (some ⟨[.int .i64 (k : Int)], 1, true⟩)).upd (H.n + 2) (some ⟨[.int .i64 90], 1, true⟩)) := by
        rw [stV1_box (by rw [upd_ne (by omega), upd_ne (by omega)]; exact f4) (by show 0 < 1; omega) rfl rfl]; rfl
      refine ⟨_, _, .inl ⟨hT, N, _, hr, .inr ⟨(k : Int), _, _, rfl, s1, s2, s3, rfl, ?_, ?_, ?_⟩⟩, ?_, ?_, rfl⟩
      · exact ldAG (cs := [nilS]) (by rw [upd_ne (by omega), upd_ne (by omega)]; exact upd_self) rfl
      · exact ldG (by rw [upd_ne (by omega)]; exact upd_self) rfl
      · exact ldG upd_self rfl
      · refine keep_box3 ((q2.mono fun b hb => hb.1).trans ?_)
        exact ((Keep.upd fun h => h.2.1 rfl).trans (Keep.upd fun h => h.2.2.1 rfl)).trans (Keep.upd fun h => h.2.2.2 rfl)
      · exact (((box3_mono H).trans (rest24_mono hr)).trans (stV_mono s1)).trans ((stV_mono s2).trans (stV_mono s3))
  · have hbig : parseR (U T) = .big := by unfold parseR; rw [if_pos (by rw [U_len']; omega)]
    have e : ((T.length : Int) > 1024) = True := eq_true (by omega)
    obtain ⟨H3, hH3⟩ : ∃ H3, (((box3 H).upd H.n (some ⟨[nilS], 1, true⟩)).upd (H.n + 1) (some ⟨[.int .i64 0], 1, true⟩)).upd (H.n + 2) (some ⟨[.int .i64 5], 1, true⟩) = H3 := ⟨_, rfl⟩
    have hrun : Ev (fun n _ => acall Tryd.prog true noExt n 24 [.string (bs T)] H) (.tuple #[.agg #[nilS], .int .i64 0, .int .i64 5], H3) := by
      refine Ev.enter (fun n => f24_eq rfl n _ _) ?_
      have g2 : (box3 H).get H.n = some ⟨[nilS], 1, true⟩ := by
        unfold box3
        rw [push_lt (by simp only [Heap.push]; omega), push_lt (by simp only [Heap.push]; omega), push_self]
      have g3 : (box3 H).get (H.n + 1) = some ⟨[.int .i64 0], 1, true⟩ := by
        unfold box3
        rw [push_lt (by simp only [Heap.push]; omega)]
        exact push_self (H := H.push ⟨[nilS], 1, true⟩)
      have g4 : (box3 H).get (H.n + 2) = some ⟨[.int .i64 0], 1, true⟩ := push_self (H := (H.push ⟨[nilS], 1, true⟩).push ⟨[.int .i64 0], 1, true⟩)
      have bn : ∀ H', bld [(.slice none 0 0)] [] H' = some (.agg #[nilS], H') := fun _ => rfl
      have n1 : newV [(.slice none 0 0)] H = some (ptr H.n 0, H.push ⟨[nilS], 1, true⟩) := rfl
      have n2 : newV [(.int .i64 0)] (H.push ⟨[nilS], 1, true⟩) = some (ptr (H.n + 1) 0, (H.push ⟨[nilS], 1, true⟩).push ⟨[.int .i64 0], 1, true⟩) := rfl
      have n3 : newV [(.int .i64 0)] ((H.push ⟨[nilS], 1, true⟩).push ⟨[.int .i64 0], 1, true⟩) = some (ptr (H.n + 2) 0, box3 H) := rfl
      have s1 : stV 1 (ptr H.n 0) (.agg #[nilS]) (box3 H) = some (undef, (box3 H).upd H.n (some ⟨[nilS], 1, true⟩)) := stG (ds := [nilS]) g2 rfl rfl rfl
      have s2 : stV 1 (ptr (H.n + 1) 0) (.int .i64 0) ((box3 H).upd H.n (some ⟨[nilS], 1, true⟩)) = some (undef, ((box3 H).upd H.n (some ⟨[nilS], 1, true⟩)).upd (H.n + 1) (some ⟨[.int .i64 0], 1, true⟩)) := by
        rw [stV1_box (by rw [upd_ne (by omega)]; exact g3) (by show 0 < 1; omega) rfl rfl]; rfl
      have s3 : stV 1 (ptr (H.n + 2) 0) (.int .i64 5) (((box3 H).upd H.n (some ⟨[nilS], 1, true⟩)).upd (H.n + 1) (some ⟨[.int .i64 0], 1, true⟩)) = some (undef, H3) := by
        rw [← hH3, stV1_box (by rw [upd_ne (by omega), upd_ne (by omega)]; exact g4) (by show 0 < 1; omega) rfl rfl]; rfl
      have l1 : ldA 1 (ptr H.n 0) H3 = some (.agg #[nilS], H3) := ldAG (cs := [nilS]) (by rw [← hH3, upd_ne (by omega), upd_ne (by omega)]; exact upd_self) rfl
      have l2 : ldC (ptr (H.n + 1) 0) H3 = some (.int .i64 0, H3) := ldG (by rw [← hH3, upd_ne (by omega)]; exact upd_self) rfl
      have l3 : ldC (ptr (H.n + 2) 0) H3 = some (.int .i64 5, H3) := ldG (by rw [← hH3]; exact upd_self) rfl
      have rm : ∀ a b c : Value, resM [some a, some b, some c] = some [a, b, c] := fun a b c => rfl
      have on : ∀ a b c : Value, one [a, b, c] = .tuple #[a, b, c] := fun a b c => rfl
      simp only [f24, ruA, ruB, ruC, ruE, ruD, lenStr, Int.reduceBEq, Int.reduceBNe, n1, n2, n3, bs_size, e, bn, s1, s2, s3, l1, l2, l3, Option.map_some, rm, on]
      exact Ev.pure _
    obtain ⟨N, hN⟩ := hrun
    have hr := hN N N (Nat.le_refl _) (Nat.le_refl _)
    refine ⟨_, _, .inr ⟨N, hr⟩, ?_, acall_mono noExt_mono N _ _ _ _ _ hr, by rw [hbig]⟩
    rw [← hH3]
    refine keep_box3 (((Keep.upd fun h => h.2.1 rfl).trans (Keep.upd fun h => h.2.2.1 rfl)).trans (Keep.upd fun h => h.2.2.2 rfl))
open Classical in
noncomputable def gParse (args : List Value) (H : Heap) : Option (Value × Heap) :=
  match args with
  | [.string s] => if h : ∃ r : Value × Heap, ParseAny s.data.toList H r.1 r.2 ∧ ParsePost H s.data.toList r.1 r.2 then some (Classical.choose h) else none
  | _ => none
noncomputable def parseE : Ext := fun f => if f = 24 then some gParse else none
theorem gParse_inv {args : List Value} {H : Heap} {v : Value} {H' : Heap} (h : gParse args H = some (v, H')) : ∃ T, args = [.string (bs T)] ∧ ParseAny T H v H' ∧ ParsePost H T v H' := by
  unfold gParse at h
  split at h
  · rename_i s
    split at h
    · rename_i hx
      obtain ⟨h1, h2⟩ := Classical.choose_spec hx
      simp only [Option.some.injEq] at h
      rw [h] at h1 h2
      exact ⟨s.data.toList, by rw [show bs s.data.toList = s from (bs_of s).symm], h1, h2⟩
    · cases h
  · cases h
theorem parseE_sound : ExtSound Tryd.prog true parseE := by
  intro f g hfg args H v H' h m w args' ha hr hlow hg
  unfold parseE at hfg
  split at hfg
  case isFalse => cases hfg
  rename_i hf
  subst hf
  injection hfg with hfg
  subst hfg
  obtain ⟨T, rfl, h1, _⟩ := gParse_inv h
  rcases h1 with ⟨h1, h2⟩ | ⟨n, h2⟩
  · exact parse_run h1 h2 ha hr hlow hg
  · exact acall_calls (by kernel_rfl) (noExt_sound _ _) noExt_mono Tryd.func24 (by kernel_rfl) (by kernel_rfl) h2 ha hr hlow hg
theorem parseE_mono : ExtMono parseE := by
  intro f g hfg f' args H v H' h
  unfold parseE at hfg
  split at hfg
  case isFalse => cases hfg
  injection hfg with hfg
  subst hfg
  obtain ⟨T, rfl, _, h2⟩ := gParse_inv h
  exact h2.2.1
theorem parse_cl {E : Ext} (hE : E 24 = some gParse) {H : Heap} (hL : Lt (all H) H) (T : List UInt8) : ∃ v H', ClP Tryd.prog true E 24 [.string (bs T)] H v H' ∧ ParsePost H T v H' := by
  have hx : ∃ r : Value × Heap, ParseAny (bs T).data.toList H r.1 r.2 ∧ ParsePost H (bs T).data.toList r.1 r.2 := by
    rw [bs_back]
    obtain ⟨v, H', h1, h2⟩ := parse_any hL
    exact ⟨(v, H'), h1, h2⟩
  have h2 : ParsePost H T (Classical.choose hx).1 (Classical.choose hx).2 := by
    have h3 := (Classical.choose_spec hx).2
    have h4 : ∀ (r : Value × Heap) (T' : List UInt8), T' = T → ParsePost H T' r.1 r.2 → ParsePost H T r.1 r.2 := fun r T' e h => by rw [← e]; exact h
    exact h4 _ _ (bs_back T) h3
  refine ⟨(Classical.choose hx).1, (Classical.choose hx).2, ⟨1, fun n m hn _ => ?_⟩, h2⟩
  obtain ⟨n, rfl⟩ : ∃ k, n = k + 1 := ⟨n - 1, by omega⟩
  show acall Tryd.prog true E (n + 1) 24 _ _ = _
  have hb : ∃ c, Tryd.f24.body = some c := ⟨_, pc_split⟩
  obtain ⟨c, hc⟩ := hb
  have hn : (Tryd.f24.name == "runtime.NumGoroutine") = false := by kernel_rfl
  simp only [acall, Tryd.func24, hn, hc, hE, gParse]
  rw [dif_pos hx]
end Go.Eng
