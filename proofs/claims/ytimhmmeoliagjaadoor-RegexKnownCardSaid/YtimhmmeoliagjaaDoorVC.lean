import Derived.Test.YtimhmmeoliagjaaDoorVB
set_option linter.unusedVariables false
set_option linter.unusedSimpArgs false
set_option linter.unusedSectionVars false
set_option maxRecDepth 100000
namespace Go.Eng
open Go Go.Proofs

theorem runK {H H1 : Heap} {R : Nat → Nat → Option (Value × Heap)} (k : Keep (all H) H H1) (h : Run H1 R) : Run H R := by
  obtain ⟨H', r1, r2⟩ := h
  exact ⟨H', r1, k.trans (r2.mono (upA k))⟩
theorem U_app (x y : List UInt8) : U (x ++ y) = U x ++ U y := List.map_append
theorem U_rep (l : List UInt8) : ∀ k, U (Lib.repeatL l k) = repN (U l) k
  | 0 => rfl
  | k + 1 => by rw [Lib.repeatL, U_app, U_rep l k]; rfl
theorem bb_add {P : Program} {t : TypeId} {a b : List UInt8} (h : a.length + b.length < 9223372036854775807) : binB P .add t (.string (bs a)) (.string (bs b)) = some (.string (bs (a ++ b))) := by
  simp only [binB, strB, bs_size]
  rw [if_neg (by simp only [IntKind.max, IntKind.bits, IntKind.signed]; simp; omega), bs_append]
theorem len_rep (l : List UInt8) (k : Nat) : (Lib.repeatL l k).length = k * l.length := Lib.repeatL_length l k
theorem box_ok (H : Heap) {v : Value} (cv : v.cells = #[v]) (ov : oneC v = true) : ∃ b H1 H2, newV [(.slice none 0 0)] H = some (ptr b 0, H1) ∧ stV 1 (ptr b 0) (.agg #[v]) H1 = some (undef, H2) ∧ H2.get b = some ⟨[v], 1, true⟩ ∧ b < H2.n ∧ Keep (all H) H H2 := by
  refine ⟨H.n, H.push ⟨[.slice none 0 0], 1, true⟩, (H.push ⟨[.slice none 0 0], 1, true⟩).upd H.n (some ⟨[v], 1, true⟩), nilbox, stG (ds := [v]) push_self rfl rfl (by simp [ov]), upd_self, by show H.n < H.n + 1; omega, push_keep.trans (Keep.upd fun h => by have : H.n < H.n := h; omega)⟩
theorem parse_big {H : Heap} (hG : G9 H) {T : List UInt8} (hp : parseR (U T) = .big) : ∃ H', ClX 24 [.string (bs T)] H (.tuple #[.agg #[nilS], .int .i64 0, .int .i64 5]) H' ∧ Keep (all H) H H' := by
  obtain ⟨v, H', c, k, _, h⟩ := parse_cl (E := EX) EX_parse hG.lt T
  rw [hp] at h
  subst h
  exact ⟨H', c, k⟩
theorem parse_bad1 {H : Heap} (hG : G9 H) {T : List UInt8} {a : Nat} (hp : parseR (U T) = .bad a) : ∃ H', ClX 24 [.string (bs T)] H (.tuple #[.agg #[nilS], .int .i64 (a : Int), .int .i64 90]) H' ∧ Keep (all H) H H' := by
  obtain ⟨v, H', c, k, _, h⟩ := parse_cl (E := EX) EX_parse hG.lt T
  rw [hp] at h
  subst h
  exact ⟨H', c, k⟩
theorem parse_ok1 {H : Heap} (hG : G9 H) {T : List UInt8} {p : Rx → Bool} (hp : okP (U T) p = true) : ∃ v H', ClX 24 [.string (bs T)] H (.tuple #[.agg #[v], .int .i64 0, .int .i64 0]) H' ∧ Keep (all H) H H' ∧ v.cells = #[v] ∧ oneC v = true := by
  obtain ⟨t, h1, _⟩ := okP_elim hp
  obtain ⟨v, H', c, k, _, h⟩ := parse_cl (E := EX) EX_parse hG.lt T
  rw [h1] at h
  obtain ⟨vl, rfl, ha⟩ := h
  exact ⟨vl, H', c, k, (slc_cells ha.sl).1, (slc_cells ha.sl).2⟩
theorem kn_second {H : Heap} (hG : G9 H) (J : ∀ H1, G9 H1 → Run H1 fun n _ => f10_J2 real (AX n) n (.bool true) (.bool true) (.bool true) (.bool true) H1) : Run H fun n _ => f10_J1 real (AX n) n (.bool true) (.bool true) (.bool true) H := by
  obtain ⟨t, hp, ht⟩ := okP_elim kn1
  simp only [Bool.and_eq_true, decide_eq_true_eq] at ht
  unfold f10_J1
  try simp only [ruA, ruB, ruC, ruE, ruD, lenStr, Int.reduceBEq, Int.reduceBNe]
  refine goC (rep_cl (E := EX) rfl [97] (k := 128) (by decide) (by decide) H) (Keep.refl _ _) ?_
  obtain ⟨v, H, c, tv, k⟩ := of_ok hG (T := Lib.repeatL [97] 128) (by rw [U_rep]; exact hp)
  have hG := hG.keep k
  refine goC c k ?_
  obtain ⟨cv, ov⟩ := slc_cells tv
  obtain ⟨b, _, H, nv, st, gb, hb, k⟩ := box_ok H cv ov
  have hG := hG.keep k
  have tv := tv.keep k
  have la : ldA 1 (ptr b 0) H = some (.agg #[v], H) := ldAG (cs := [v]) gb rfl
  simp only [ruA, ruB, ruC, ruE, ruD, lenStr, Int.reduceBEq, Int.reduceBNe, nv, st, la]
  refine runK k ?_
  obtain ⟨H, c, k⟩ := print_ok (by omega) (chk_flat (by omega)) tv hG
  rw [if_neg (by omega)] at c
  have ls : lenS v = some (.int .i64 255) := by have := tv.ld; rw [ht.1] at this; exact this
  have hG := hG.keep k
  have gb := (k.2 _ hb).trans gb
  have hb := Nat.lt_of_lt_of_le hb k.1
  refine goC c k ?_
  try simp only [ruA, ruB, ruC, ruE, ruD, lenStr, Int.reduceBEq, Int.reduceBNe]
  refine goC (rep_cl (E := EX) rfl [97] (k := 129) (by decide) (by decide) H) (Keep.refl _ _) ?_
  obtain ⟨H, c, k⟩ := parse_big hG (T := Lib.repeatL [97] 129) (by rw [U_rep]; exact kn2)
  have hG := hG.keep k
  have gb := (k.2 _ hb).trans gb
  have hb := Nat.lt_of_lt_of_le hb k.1
  refine goC c k ?_
  obtain ⟨_, _, H, nv, st, _, _, k⟩ := box_ok H (v := nilS) rfl rfl
  try simp only [ruA, ruB, ruC, ruE, ruD, lenStr, Int.reduceBEq, Int.reduceBNe, nv, st]
  refine runK k ?_
  have hG := hG.keep k
  have gb := (k.2 _ hb).trans gb
  have hb := Nat.lt_of_lt_of_le hb k.1
  refine goC (rep_cl (E := EX) rfl [40] (k := 511) (by decide) (by decide) H) (Keep.refl _ _) ?_
  have a1 : binB Tryd.prog .add 9 (.string (bs (Lib.repeatL [40] 511))) (.string (⟨#[97]⟩)) = _ := bb_add (a := Lib.repeatL [40] 511) (b := [97]) (by simp only [List.length_append, List.length_cons, List.length_nil, len_rep]; decide)
  try simp only [ruA, ruB, ruC, ruE, ruD, lenStr, Int.reduceBEq, Int.reduceBNe, a1]
  refine goC (rep_cl (E := EX) rfl [41] (k := 511) (by decide) (by decide) H) (Keep.refl _ _) ?_
  have a1 : binB Tryd.prog .add 9 (.string (bs (Lib.repeatL [40] 511 ++ [97]))) (.string (bs (Lib.repeatL [41] 511))) = _ := bb_add (a := Lib.repeatL [40] 511 ++ [97]) (b := Lib.repeatL [41] 511) (by simp only [List.length_append, List.length_cons, List.length_nil, len_rep]; decide)
  try simp only [ruA, ruB, ruC, ruE, ruD, lenStr, Int.reduceBEq, Int.reduceBNe, a1]
  obtain ⟨w, H, c, k, cw, ow⟩ := parse_ok1 hG (T := Lib.repeatL [40] 511 ++ [97] ++ Lib.repeatL [41] 511) (by rw [U_app, U_app, U_rep, U_rep]; exact kn3)
  have hG := hG.keep k
  have gb := (k.2 _ hb).trans gb
  have hb := Nat.lt_of_lt_of_le hb k.1
  refine goC c k ?_
  obtain ⟨_, _, H, nv, st, _, _, k⟩ := box_ok H cw ow
  try simp only [ruA, ruB, ruC, ruE, ruD, lenStr, Int.reduceBEq, Int.reduceBNe, nv, st]
  refine runK k ?_
  have hG := hG.keep k
  have gb := (k.2 _ hb).trans gb
  have hb := Nat.lt_of_lt_of_le hb k.1
  refine goC (rep_cl (E := EX) rfl [97] (k := 1025) (by decide) (by decide) H) (Keep.refl _ _) ?_
  obtain ⟨H, c, k⟩ := parse_big hG (T := Lib.repeatL [97] 1025) (by rw [U_rep]; exact kn4)
  have hG := hG.keep k
  have gb := (k.2 _ hb).trans gb
  have hb := Nat.lt_of_lt_of_le hb k.1
  refine goC c k ?_
  obtain ⟨_, _, H, nv, st, _, _, k⟩ := box_ok H (v := nilS) rfl rfl
  try simp only [ruA, ruB, ruC, ruE, ruD, lenStr, Int.reduceBEq, Int.reduceBNe, nv, st]
  refine runK k ?_
  have hG := hG.keep k
  have gb := (k.2 _ hb).trans gb
  have hb := Nat.lt_of_lt_of_le hb k.1
  refine goC (rep_cl (E := EX) rfl [42] (k := 255) (by decide) (by decide) H) (Keep.refl _ _) ?_
  have a1 : binB Tryd.prog .add 9 (.string (⟨#[97]⟩)) (.string (bs (Lib.repeatL [42] 255))) = _ := bb_add (a := [97]) (b := Lib.repeatL [42] 255) (by simp only [List.length_append, List.length_cons, List.length_nil, len_rep]; decide)
  try simp only [ruA, ruB, ruC, ruE, ruD, lenStr, Int.reduceBEq, Int.reduceBNe, a1]
  obtain ⟨w, H, c, k, cw, ow⟩ := parse_ok1 hG (T := [97] ++ Lib.repeatL [42] 255) (by rw [U_app, U_rep]; exact kn5)
  have hG := hG.keep k
  have gb := (k.2 _ hb).trans gb
  have hb := Nat.lt_of_lt_of_le hb k.1
  refine goC c k ?_
  obtain ⟨_, _, H, nv, st, _, _, k⟩ := box_ok H cw ow
  try simp only [ruA, ruB, ruC, ruE, ruD, lenStr, Int.reduceBEq, Int.reduceBNe, nv, st]
  refine runK k ?_
  have hG := hG.keep k
  have gb := (k.2 _ hb).trans gb
  have hb := Nat.lt_of_lt_of_le hb k.1
  refine goC (rep_cl (E := EX) rfl [42] (k := 256) (by decide) (by decide) H) (Keep.refl _ _) ?_
  have a1 : binB Tryd.prog .add 9 (.string (⟨#[97]⟩)) (.string (bs (Lib.repeatL [42] 256))) = _ := bb_add (a := [97]) (b := Lib.repeatL [42] 256) (by simp only [List.length_append, List.length_cons, List.length_nil, len_rep]; decide)
  try simp only [ruA, ruB, ruC, ruE, ruD, lenStr, Int.reduceBEq, Int.reduceBNe, a1]
  obtain ⟨H, c, k⟩ := parse_big hG (T := [97] ++ Lib.repeatL [42] 256) (by rw [U_app, U_rep]; exact kn6)
  have hG := hG.keep k
  have gb := (k.2 _ hb).trans gb
  have hb := Nat.lt_of_lt_of_le hb k.1
  refine goC c k ?_
  obtain ⟨_, _, H, nv, st, _, _, k⟩ := box_ok H (v := nilS) rfl rfl
  try simp only [ruA, ruB, ruC, ruE, ruD, lenStr, Int.reduceBEq, Int.reduceBNe, nv, st]
  refine runK k ?_
  have hG := hG.keep k
  have gb := (k.2 _ hb).trans gb
  have hb := Nat.lt_of_lt_of_le hb k.1
  refine goC (rep_cl (E := EX) rfl [97] (k := 200) (by decide) (by decide) H) (Keep.refl _ _) ?_
  have a1 : binB Tryd.prog .add 9 (.string (bs (Lib.repeatL [97] 200))) (.string (⟨#[41]⟩)) = _ := bb_add (a := Lib.repeatL [97] 200) (b := [41]) (by simp only [List.length_append, List.length_cons, List.length_nil, len_rep]; decide)
  try simp only [ruA, ruB, ruC, ruE, ruD, lenStr, Int.reduceBEq, Int.reduceBNe, a1]
  obtain ⟨H, c, k⟩ := parse_bad1 hG (T := Lib.repeatL [97] 200 ++ [41]) (a := 200) (by rw [U_app, U_rep]; exact kn7)
  have hG := hG.keep k
  have gb := (k.2 _ hb).trans gb
  have hb := Nat.lt_of_lt_of_le hb k.1
  refine goC c k ?_
  obtain ⟨_, _, H, nv, st, _, _, k⟩ := box_ok H (v := nilS) rfl rfl
  try simp only [ruA, ruB, ruC, ruE, ruD, lenStr, Int.reduceBEq, Int.reduceBNe, nv, st]
  refine runK k ?_
  have hG := hG.keep k
  have gb := (k.2 _ hb).trans gb
  have hb := Nat.lt_of_lt_of_le hb k.1
  have z0 : ldC (ptr b 0) H = some (v, H) := ldG gb rfl
  try simp only [ruA, ruB, ruC, ruE, ruD, lenStr, Int.reduceBEq, Int.reduceBNe, z0, ls]
  exact J H hG
end Go.Eng
