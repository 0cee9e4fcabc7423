import Derived.Test.YtimhmmeoliagjaaDoorVD
set_option linter.unusedVariables false
set_option linter.unusedSimpArgs false
set_option linter.unusedSectionVars false
set_option maxRecDepth 100000
namespace Go.Eng
open Go Go.Proofs

theorem rep_B0 : ∀ n, rep n [.int .u8 0] = B (List.replicate n 0)
  | 0 => rfl
  | n + 1 => by
    rw [List.replicate_succ, show B (0 :: List.replicate n 0) = .int .u8 0 :: B (List.replicate n 0) from rfl, ← rep_B0 n]
    rfl
theorem B_one (xs : List Nat) : (B xs).all oneC = true := by
  rw [List.all_eq_true]
  intro v hv
  simp only [B, List.mem_map] at hv
  obtain ⟨_, _, rfl⟩ := hv
  rfl
theorem mkBy_ok {N : Nat} (h : N ≤ 1000000000000) {H : Heap} : mkS 1 1 [.int .u8 0] (.int .i64 (N : Int)) (.int .i64 (N : Int)) H = some (.slice (some ⟨H.n, 0, none⟩) N N, H.push ⟨B (List.replicate N 0), 1, true⟩) := by
  have hm : mostBytes = 140737488355328 := rfl
  simp only [mkS]
  rw [if_pos ⟨by omega, by omega, by omega, rfl, by omega, by omega⟩, rep_B0]
  simp only [newS, Int.toNat_natCast, B_one, if_true]
theorem slB (H : Heap) (l : List Nat) : Sl (all (H.push ⟨B l, 1, true⟩)) (H.push ⟨B l, 1, true⟩) 1 (.slice (some ⟨H.n, 0, none⟩) l.length l.length) l.length (B l) :=
  .inr (.inr ⟨H.n, 0, none, l.length, _, rfl, by simp [all, push_n], push_self, by simp [B], Nat.le_refl _, by simp only [cut, List.drop_zero]; rw [List.take_of_length_le (by simp [B])]⟩)
theorem tkP {H : Heap} {v : Value} {t : Rx} {l : List Nat} {N : Nat} (ht : t.size ≤ 256) (tv : Tv H v t) (hl : ∀ c ∈ l, c < 256) (hN : l.length = N) (hN' : N ≤ 100000) :
    ∃ H2, ClX 20 [.agg #[v], .slice (some ⟨H.n, 0, none⟩) N N] (H.push ⟨B l, 1, true⟩) (if 8192 < N then .tuple #[.bool false, .int .i64 5] else .tuple #[.bool (takesN (t.flat 0) l), .int .i64 0]) H2 ∧ Keep (all H) H H2 := by
  subst hN
  obtain ⟨H2, c, k⟩ := takesR_ok ht (tv.keep push_keep) (slB H l) hl (by omega)
  exact ⟨H2, c, push_keep.trans (k.mono (upA push_keep))⟩
theorem rep0_lt (n : Nat) : ∀ c ∈ List.replicate n 0, c < 256 := fun c hc => by
  rw [(List.mem_replicate.1 hc).2]; decide
theorem kn_last {H : Heap} (hG : G9 H) : Run H fun n _ => f10_J3 real (AX n) n (.bool true) (.bool true) (.bool true) (.bool true) (.bool true) H := by
  have bn : ∀ G : Heap, bld [(.slice none 0 0)] [] G = some (.agg #[.slice none 0 0], G) := fun G => rfl
  have m3 : ∀ G : Heap, mkS 1 1 [.int .u8 0] (.int .i64 8193) (.int .i64 8193) G = some (.slice (some ⟨G.n, 0, none⟩) 8193 8193, G.push ⟨B (List.replicate 8193 0), 1, true⟩) := fun G => mkBy_ok (N := 8193) (by decide)
  have m2 : ∀ G : Heap, mkS 1 1 [.int .u8 0] (.int .i64 8192) (.int .i64 8192) G = some (.slice (some ⟨G.n, 0, none⟩) 8192 8192, G.push ⟨B (List.replicate 8192 0), 1, true⟩) := fun G => mkBy_ok (N := 8192) (by decide)
  have t3 : ∀ G : Heap, bldS 1 3 [.int .u8 0] [(0, 1, .int .u8 97), (1, 1, .int .u8 97), (2, 1, .int .u8 97)] G = some (.slice (some ⟨G.n, 0, none⟩) 3 3, G.push ⟨B [97, 97, 97], 1, true⟩) := fun G => rfl
  have t4 : ∀ G : Heap, bldS 1 4 [.int .u8 0] [(0, 1, .int .u8 97), (1, 1, .int .u8 97), (2, 1, .int .u8 97), (3, 1, .int .u8 97)] G = some (.slice (some ⟨G.n, 0, none⟩) 4 4, G.push ⟨B [97, 97, 97, 97], 1, true⟩) := fun G => rfl
  have q3 : ∀ G : Heap, markV (.slice (some ⟨G.n, 0, none⟩) 3 3) (G.push ⟨B [97, 97, 97], 1, true⟩) = some (.slice (some ⟨G.n, 0, none⟩) 3 3, G.push ⟨B [97, 97, 97], 1, true⟩) := fun G => mark_push (by decide)
  have q4 : ∀ G : Heap, markV (.slice (some ⟨G.n, 0, none⟩) 4 4) (G.push ⟨B [97, 97, 97, 97], 1, true⟩) = some (.slice (some ⟨G.n, 0, none⟩) 4 4, G.push ⟨B [97, 97, 97, 97], 1, true⟩) := fun G => mark_push (by decide)
  unfold f10_J3
  try simp only [ruA, ruB, ruC, ruE, ruD, lenStr, Int.reduceBEq, Int.reduceBNe]
  refine goC (rep_cl (E := EX) rfl [43] (k := 200) (by decide) (by decide) H) (Keep.refl _ _) ?_
  have a1 : binB Tryd.prog .add 9 (.string (⟨#[40, 41]⟩)) (.string (bs (Lib.repeatL [43] 200))) = _ := bb_add (a := [40, 41]) (b := Lib.repeatL [43] 200) (by simp only [List.length_append, List.length_cons, List.length_nil, len_rep]; decide)
  try simp only [ruA, ruB, ruC, ruE, ruD, lenStr, Int.reduceBEq, Int.reduceBNe, a1]
  have a1 : binB Tryd.prog .add 9 (.string (bs ([40, 41] ++ Lib.repeatL [43] 200))) (.string (⟨#[97]⟩)) = _ := bb_add (a := [40, 41] ++ Lib.repeatL [43] 200) (b := [97]) (by simp only [List.length_append, List.length_cons, List.length_nil, len_rep]; decide)
  try simp only [ruA, ruB, ruC, ruE, ruD, lenStr, Int.reduceBEq, Int.reduceBNe, a1]
  refine goC (rep_cl (E := EX) rfl [42] (k := 50) (by decide) (by decide) H) (Keep.refl _ _) ?_
  have a1 : binB Tryd.prog .add 9 (.string (bs ([40, 41] ++ Lib.repeatL [43] 200 ++ [97]))) (.string (bs (Lib.repeatL [42] 50))) = _ := bb_add (a := [40, 41] ++ Lib.repeatL [43] 200 ++ [97]) (b := Lib.repeatL [42] 50) (by simp only [List.length_append, List.length_cons, List.length_nil, len_rep]; decide)
  try simp only [ruA, ruB, ruC, ruE, ruD, lenStr, Int.reduceBEq, Int.reduceBNe, a1]
  obtain ⟨v, H, c, tv, k⟩ := of_ok hG (T := [40, 41] ++ Lib.repeatL [43] 200 ++ [97] ++ Lib.repeatL [42] 50) (by rw [U_app, U_app, U_app, U_rep, U_rep]; exact kn8)
  have hG := hG.keep k
  refine goC c k ?_
  obtain ⟨cv, ov⟩ := slc_cells tv
  obtain ⟨b, _, H, nv, st, gb, hb, k⟩ := box_ok H cv ov
  have hG := hG.keep k
  have tv := tv.keep k
  have la : ldA 1 (ptr b 0) H = some (.agg #[v], H) := ldAG (cs := [v]) gb rfl
  simp only [ruA, ruB, ruC, ruE, ruD, lenStr, Int.reduceBEq, Int.reduceBNe, nv, st, la, t3, q3]
  refine runK k ?_
  obtain ⟨H, c, k⟩ := tkP (N := 3) (l := [97, 97, 97]) kn8s tv (by simp) rfl (by decide)
  rw [if_neg (by decide), kn8t] at c
  have hG := hG.keep k
  refine goB c k ?_
  try simp only [ruA, ruB, ruC, ruE, ruD, lenStr, Int.reduceBEq, Int.reduceBNe]
  refine goC (rep_cl (E := EX) rfl [40] (k := 60) (by decide) (by decide) H) (Keep.refl _ _) ?_
  have a1 : binB Tryd.prog .add 9 (.string (bs (Lib.repeatL [40] 60))) (.string (⟨#[97]⟩)) = _ := bb_add (a := Lib.repeatL [40] 60) (b := [97]) (by simp only [List.length_append, List.length_cons, List.length_nil, len_rep]; decide)
  try simp only [ruA, ruB, ruC, ruE, ruD, lenStr, Int.reduceBEq, Int.reduceBNe, a1]
  refine goC (rep_cl (E := EX) rfl [124, 40, 41, 41, 43] (k := 60) (by decide) (by decide) H) (Keep.refl _ _) ?_
  have a1 : binB Tryd.prog .add 9 (.string (bs (Lib.repeatL [40] 60 ++ [97]))) (.string (bs (Lib.repeatL [124, 40, 41, 41, 43] 60))) = _ := bb_add (a := Lib.repeatL [40] 60 ++ [97]) (b := Lib.repeatL [124, 40, 41, 41, 43] 60) (by simp only [List.length_append, List.length_cons, List.length_nil, len_rep]; decide)
  try simp only [ruA, ruB, ruC, ruE, ruD, lenStr, Int.reduceBEq, Int.reduceBNe, a1]
  obtain ⟨v, H, c, tv, k⟩ := of_ok hG (T := Lib.repeatL [40] 60 ++ [97] ++ Lib.repeatL [124, 40, 41, 41, 43] 60) (by rw [U_app, U_app, U_rep, U_rep]; exact kn9)
  have hG := hG.keep k
  refine goC c k ?_
  simp only [ruA, ruB, ruC, ruE, ruD, lenStr, Int.reduceBEq, Int.reduceBNe, t4, q4]
  obtain ⟨H, c, k⟩ := tkP (N := 4) (l := [97, 97, 97, 97]) kn9s tv (by simp) rfl (by decide)
  rw [if_neg (by decide), kn9t] at c
  have hG := hG.keep k
  refine goB c k ?_
  try simp only [ruA, ruB, ruC, ruE, ruD, lenStr, Int.reduceBEq, Int.reduceBNe]
  obtain ⟨v, H, c, tv, k⟩ := of_ok hG (T := [97]) kn11
  have hG := hG.keep k
  refine goC c k ?_
  simp only [ruA, ruB, ruC, ruE, ruD, lenStr, Int.reduceBEq, Int.reduceBNe, m3]
  obtain ⟨H, c, k⟩ := tkP (N := 8193) (l := List.replicate 8193 0) (by decide) tv (rep0_lt _) List.length_replicate (by decide)
  rw [if_pos (by decide)] at c
  have hG := hG.keep k
  refine goB c k ?_
  simp only [ruA, ruB, ruC, ruE, ruD, lenStr, Int.reduceBEq, Int.reduceBNe, bn, m3]
  obtain ⟨A, c, k⟩ := takesT_no (l := []) (v := .slice none 0 0) (H := H.push ⟨B (List.replicate 8193 0), 1, true⟩) (vt := .slice (some ⟨H.n, 0, none⟩) 8193 8193) (by decide +kernel) Sl.nil
  rw [show chkN [] = 2 by kernel_rfl] at c
  have k := push_keep.trans (k.mono (upA push_keep))
  have hG := hG.keep k
  refine goB c k ?_
  try simp only [ruA, ruB, ruC, ruE, ruD, lenStr, Int.reduceBEq, Int.reduceBNe]
  obtain ⟨v, H, c, tv, k⟩ := of_ok hG (T := [92, 120, 48, 48, 42]) kn10
  have hG := hG.keep k
  refine goC c k ?_
  simp only [ruA, ruB, ruC, ruE, ruD, lenStr, Int.reduceBEq, Int.reduceBNe, m2]
  obtain ⟨H, c, k⟩ := tkP (N := 8192) (l := List.replicate 8192 0) (by decide) tv (rep0_lt _) List.length_replicate (by decide)
  rw [if_neg (by decide), kn10t] at c
  have hG := hG.keep k
  refine goB c k ?_
  try simp only [ruA, ruB, ruC, ruE, ruD, lenStr, Int.reduceBEq, Int.reduceBNe]
  obtain ⟨H, c, k⟩ := works_ok hG
  refine goC c k ?_
  try simp only [ruA, ruB, ruC, ruE, ruD, lenStr, Int.reduceBEq, Int.reduceBNe]
  exact ⟨_, Ev.pure _, Keep.refl _ _⟩
theorem known_ok {H : Heap} (hG : G9 H) : ∃ H', ClX 10 [] H (.bool true) H' ∧ Keep (all H) H H' := by
  obtain ⟨H', r1, r2⟩ := kn_first hG fun H1 h1 => kn_second h1 fun H2 h2 => kn_third h2 fun H3 h3 => kn_last h3
  exact ⟨H', Ev.enter (fun n => f10_eq rfl n _) r1, r2⟩
end Go.Eng
