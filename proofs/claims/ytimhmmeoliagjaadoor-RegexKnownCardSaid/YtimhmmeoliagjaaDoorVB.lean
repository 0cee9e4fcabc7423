import Derived.Test.YtimhmmeoliagjaaDoorVA
import Derived.Test.YtimhmmeoliagjaaDoorZV
set_option linter.unusedVariables false
set_option linter.unusedSimpArgs false
set_option linter.unusedSectionVars false
set_option maxRecDepth 100000
namespace Go.Eng
open Go Go.Proofs

def Run (H : Heap) (R : Nat → Nat → Option (Value × Heap)) : Prop := ∃ H', Ev R (.bool true, H') ∧ Keep (all H) H H'
theorem goC {H H1 : Heap} {f : FuncId} {args : List Value} {v : Value} {k : Nat → Nat → Value → Heap → Option (Value × Heap)} (c : ClX f args H v H1) (k1 : Keep (all H) H H1) (h : Run H1 fun n m => k n m v H1) : Run H fun n m => bnd (AX n f args H) (k n m) := by
  obtain ⟨H', r1, r2⟩ := h
  exact ⟨H', Ev.callC c r1, k1.trans (r2.mono (upA k1))⟩
theorem goB {H A H1 : Heap} {f : FuncId} {args : List Value} {v : Value} {k : Nat → Nat → Value → Heap → Option (Value × Heap)} (c : ClX f args A v H1) (k1 : Keep (all H) H H1) (h : Run H1 fun n m => k n m v H1) : Run H fun n m => bnd (AX n f args A) (k n m) := by
  obtain ⟨H', r1, r2⟩ := h
  exact ⟨H', Ev.callC c r1, k1.trans (r2.mono (upA k1))⟩
theorem tk_ok {H : Heap} (hG : G9 H) {T S : List UInt8} {b : Bool} (h : okP (U T) (fun t => decide (t.size ≤ 256) && (takesN (t.flat 0) (U S) == b)) = true) (hS : S.length ≤ 8192) : ∃ H', ClX 27 [.string (bs T), .string (bs S)] H (.bool b) H' ∧ Keep (all H) H H' := by
  obtain ⟨t, h1, h2⟩ := okP_elim h
  simp only [Bool.and_eq_true, decide_eq_true_eq, beq_iff_eq] at h2
  have := takes2_ok hG (S := S) h1 h2.1 hS
  rwa [h2.2] at this
theorem ofp_ok {H : Heap} (hG : G9 H) {T S : List UInt8} (h : okP (U T) (fun t => decide (t.size ≤ 256) && decide (prT t = U S)) = true) : ∃ v t H', ClX 34 [.string (bs T)] H (.agg #[v]) H' ∧ t.size ≤ 256 ∧ prT t = U S ∧ Tv H' v t ∧ Keep (all H) H H' := by
  obtain ⟨t, h1, h2⟩ := okP_elim h
  simp only [Bool.and_eq_true, decide_eq_true_eq] at h2
  obtain ⟨v, H', a, b, c⟩ := of_ok hG h1
  exact ⟨v, t, H', a, h2.1, h2.2, b, c⟩
theorem of2_ok {H : Heap} {a b : Nat} (ha : a < 256) (hb : b < 256) : ∃ H1 H2, bldS 1 2 [.int .u8 0] [(0, 1, .int .u8 (a : Int)), (1, 1, .int .u8 (b : Int))] H = some (.slice (some ⟨H.n, 0, none⟩) 2 2, H1) ∧ ClX 32 [.slice (some ⟨H.n, 0, none⟩) 2 2] H1 (.agg (SC (ofS [a, b])).toArray) H2 ∧ Keep (all H) H H2 := by
  obtain ⟨H1, hH1⟩ : ∃ H1, H.push ⟨[.int .u8 (a : Int), .int .u8 (b : Int)], 1, true⟩ = H1 := ⟨_, rfl⟩
  have k1 : Keep (all H) H H1 := by rw [← hH1]; exact push_keep
  have sl : Sl (all H1) H1 1 (.slice (some ⟨H.n, 0, none⟩) 2 2) [a, b].length (B [a, b]) := by
    rw [← hH1]
    exact .inr (.inr ⟨H.n, 0, none, 2, _, rfl, by simp [all, push_n], push_self, by simp, Nat.le_refl _, rfl⟩)
  obtain ⟨H2, c2, k2⟩ := sof_ok (E := EX) rfl sl (by simp; omega) (by simp)
  exact ⟨H1, H2, by rw [← hH1]; exact to2, c2, k1.trans (k2.mono (upA k1))⟩
theorem bz (G : Heap) : bld [(.int .u64 0), (.int .u64 0), (.int .u64 0), (.int .u64 0)] [] G = some (.agg (SC 0).toArray, G) := rfl
theorem kn_first {H : Heap} (hG : G9 H) (J : ∀ H1, G9 H1 → Run H1 fun n _ => f10_J1 real (AX n) n (.bool true) (.bool true) (.bool true) H1) : Run H fun n _ => f10 real (AX n) n H := by
  unfold f10
  try simp only [ruA, ruB, ruC, ruE, ruD, lenStr, Int.reduceBEq, Int.reduceBNe]
  obtain ⟨H, c, k⟩ := fails_ok hG (T := [42]) (k := 0) (by kernel_rfl)
  have hG := hG.keep k
  refine goC c k ?_
  try simp only [ruA, ruB, ruC, ruE, ruD, lenStr, Int.reduceBEq, Int.reduceBNe]
  obtain ⟨H, c, k⟩ := fails_ok hG (T := [41]) (k := 0) (by kernel_rfl)
  have hG := hG.keep k
  refine goC c k ?_
  try simp only [ruA, ruB, ruC, ruE, ruD, lenStr, Int.reduceBEq, Int.reduceBNe]
  obtain ⟨H, c, k⟩ := fails_ok hG (T := [97, 41]) (k := 1) (by kernel_rfl)
  have hG := hG.keep k
  refine goC c k ?_
  try simp only [ruA, ruB, ruC, ruE, ruD, lenStr, Int.reduceBEq, Int.reduceBNe]
  obtain ⟨H, c, k⟩ := fails_ok hG (T := [97, 47]) (k := 1) (by kernel_rfl)
  have hG := hG.keep k
  refine goC c k ?_
  try simp only [ruA, ruB, ruC, ruE, ruD, lenStr, Int.reduceBEq, Int.reduceBNe]
  obtain ⟨H, c, k⟩ := fails_ok hG (T := [92]) (k := 1) (by kernel_rfl)
  have hG := hG.keep k
  refine goC c k ?_
  try simp only [ruA, ruB, ruC, ruE, ruD, lenStr, Int.reduceBEq, Int.reduceBNe]
  obtain ⟨H, c, k⟩ := fails_ok hG (T := [92, 113]) (k := 1) (by kernel_rfl)
  have hG := hG.keep k
  refine goC c k ?_
  try simp only [ruA, ruB, ruC, ruE, ruD, lenStr, Int.reduceBEq, Int.reduceBNe]
  obtain ⟨H, c, k⟩ := fails_ok hG (T := [92, 120]) (k := 2) (by kernel_rfl)
  have hG := hG.keep k
  refine goC c k ?_
  try simp only [ruA, ruB, ruC, ruE, ruD, lenStr, Int.reduceBEq, Int.reduceBNe]
  obtain ⟨H, c, k⟩ := fails_ok hG (T := [92, 120, 52]) (k := 3) (by kernel_rfl)
  have hG := hG.keep k
  refine goC c k ?_
  try simp only [ruA, ruB, ruC, ruE, ruD, lenStr, Int.reduceBEq, Int.reduceBNe]
  obtain ⟨H, c, k⟩ := fails_ok hG (T := [92, 120, 52, 71]) (k := 3) (by kernel_rfl)
  have hG := hG.keep k
  refine goC c k ?_
  try simp only [ruA, ruB, ruC, ruE, ruD, lenStr, Int.reduceBEq, Int.reduceBNe]
  obtain ⟨H, c, k⟩ := fails_ok hG (T := [92, 120, 65, 65]) (k := 2) (by kernel_rfl)
  have hG := hG.keep k
  refine goC c k ?_
  try simp only [ruA, ruB, ruC, ruE, ruD, lenStr, Int.reduceBEq, Int.reduceBNe]
  obtain ⟨H, c, k⟩ := fails_ok hG (T := [91, 97]) (k := 2) (by kernel_rfl)
  have hG := hG.keep k
  refine goC c k ?_
  try simp only [ruA, ruB, ruC, ruE, ruD, lenStr, Int.reduceBEq, Int.reduceBNe]
  obtain ⟨H, c, k⟩ := fails_ok hG (T := [91, 97, 45]) (k := 3) (by kernel_rfl)
  have hG := hG.keep k
  refine goC c k ?_
  try simp only [ruA, ruB, ruC, ruE, ruD, lenStr, Int.reduceBEq, Int.reduceBNe]
  obtain ⟨H, c, k⟩ := fails_ok hG (T := [91, 94, 93]) (k := 2) (by kernel_rfl)
  have hG := hG.keep k
  refine goC c k ?_
  try simp only [ruA, ruB, ruC, ruE, ruD, lenStr, Int.reduceBEq, Int.reduceBNe]
  obtain ⟨H, c, k⟩ := fails_ok hG (T := [91, 97, 45, 98, 45, 99, 93]) (k := 4) (by kernel_rfl)
  have hG := hG.keep k
  refine goC c k ?_
  try simp only [ruA, ruB, ruC, ruE, ruD, lenStr, Int.reduceBEq, Int.reduceBNe]
  obtain ⟨H, c, k⟩ := fails_ok hG (T := [91, 97, 91, 93]) (k := 2) (by kernel_rfl)
  have hG := hG.keep k
  refine goC c k ?_
  try simp only [ruA, ruB, ruC, ruE, ruD, lenStr, Int.reduceBEq, Int.reduceBNe]
  obtain ⟨H, c, k⟩ := fails_ok hG (T := [10]) (k := 0) (by kernel_rfl)
  have hG := hG.keep k
  refine goC c k ?_
  try simp only [ruA, ruB, ruC, ruE, ruD, lenStr, Int.reduceBEq, Int.reduceBNe]
  obtain ⟨H, c, k⟩ := fails_ok hG (T := [127]) (k := 0) (by kernel_rfl)
  have hG := hG.keep k
  refine goC c k ?_
  try simp only [ruA, ruB, ruC, ruE, ruD, lenStr, Int.reduceBEq, Int.reduceBNe]
  obtain ⟨H, c, k⟩ := fails_ok hG (T := [97, 93]) (k := 1) (by kernel_rfl)
  have hG := hG.keep k
  refine goC c k ?_
  try simp only [ruA, ruB, ruC, ruE, ruD, lenStr, Int.reduceBEq, Int.reduceBNe]
  obtain ⟨H, c, k⟩ := fails_ok hG (T := [40, 40, 97, 41]) (k := 4) (by kernel_rfl)
  have hG := hG.keep k
  refine goC c k ?_
  try simp only [ruA, ruB, ruC, ruE, ruD, lenStr, Int.reduceBEq, Int.reduceBNe]
  obtain ⟨H, c, k⟩ := fails_ok hG (T := [91, 92, 120, 102, 102, 45, 92, 120, 48, 48, 93]) (k := 6) (by kernel_rfl)
  have hG := hG.keep k
  refine goC c k ?_
  try simp only [ruA, ruB, ruC, ruE, ruD, lenStr, Int.reduceBEq, Int.reduceBNe]
  obtain ⟨H, c, k⟩ := tk_ok hG (T := []) (S := []) (b := true) (by kernel_rfl) (by decide)
  have hG := hG.keep k
  refine goC c k ?_
  try simp only [ruA, ruB, ruC, ruE, ruD, lenStr, Int.reduceBEq, Int.reduceBNe]
  obtain ⟨H, c, k⟩ := tk_ok hG (T := [40, 41]) (S := []) (b := true) (by kernel_rfl) (by decide)
  have hG := hG.keep k
  refine goC c k ?_
  try simp only [ruA, ruB, ruC, ruE, ruD, lenStr, Int.reduceBEq, Int.reduceBNe]
  obtain ⟨H, c, k⟩ := tk_ok hG (T := [40, 41]) (S := [97]) (b := false) (by kernel_rfl) (by decide)
  have hG := hG.keep k
  refine goC c k ?_
  try simp only [ruA, ruB, ruC, ruE, ruD, lenStr, Int.reduceBEq, Int.reduceBNe]
  obtain ⟨H, c, k⟩ := tk_ok hG (T := [97, 124, 98, 124]) (S := []) (b := true) (by kernel_rfl) (by decide)
  have hG := hG.keep k
  refine goC c k ?_
  try simp only [ruA, ruB, ruC, ruE, ruD, lenStr, Int.reduceBEq, Int.reduceBNe]
  obtain ⟨H, c, k⟩ := tk_ok hG (T := [46]) (S := [0]) (b := true) (by kernel_rfl) (by decide)
  have hG := hG.keep k
  refine goC c k ?_
  try simp only [ruA, ruB, ruC, ruE, ruD, lenStr, Int.reduceBEq, Int.reduceBNe]
  obtain ⟨H, c, k⟩ := tk_ok hG (T := [46]) (S := [10]) (b := false) (by kernel_rfl) (by decide)
  have hG := hG.keep k
  refine goC c k ?_
  try simp only [ruA, ruB, ruC, ruE, ruD, lenStr, Int.reduceBEq, Int.reduceBNe]
  obtain ⟨H, c, k⟩ := tk_ok hG (T := [91, 94, 97, 93]) (S := [10]) (b := true) (by kernel_rfl) (by decide)
  have hG := hG.keep k
  refine goC c k ?_
  try simp only [ruA, ruB, ruC, ruE, ruD, lenStr, Int.reduceBEq, Int.reduceBNe]
  obtain ⟨H, c, k⟩ := tk_ok hG (T := [45, 94]) (S := [45, 94]) (b := true) (by kernel_rfl) (by decide)
  have hG := hG.keep k
  refine goC c k ?_
  try simp only [ruA, ruB, ruC, ruE, ruD, lenStr, Int.reduceBEq, Int.reduceBNe]
  obtain ⟨H, c, k⟩ := tk_ok hG (T := [91, 97, 92, 45, 122, 93]) (S := [45]) (b := true) (by kernel_rfl) (by decide)
  have hG := hG.keep k
  refine goC c k ?_
  try simp only [ruA, ruB, ruC, ruE, ruD, lenStr, Int.reduceBEq, Int.reduceBNe]
  obtain ⟨H, c, k⟩ := tk_ok hG (T := [92, 110, 92, 116, 92, 114, 92, 120, 52, 49, 92, 47]) (S := [10, 9, 13, 65, 47]) (b := true) (by kernel_rfl) (by decide)
  have hG := hG.keep k
  refine goC c k ?_
  try simp only [ruA, ruB, ruC, ruE, ruD, lenStr, Int.reduceBEq, Int.reduceBNe]
  obtain ⟨H, c, k⟩ := tk_ok hG (T := [40, 97, 124, 98, 41, 42, 97, 98, 98]) (S := [97, 98, 97, 98, 98]) (b := true) (by kernel_rfl) (by decide)
  have hG := hG.keep k
  refine goC c k ?_
  try simp only [ruA, ruB, ruC, ruE, ruD, lenStr, Int.reduceBEq, Int.reduceBNe]
  obtain ⟨H, c, k⟩ := tk_ok hG (T := [97, 43, 63]) (S := []) (b := true) (by kernel_rfl) (by decide)
  have hG := hG.keep k
  refine goC c k ?_
  try simp only [ruA, ruB, ruC, ruE, ruD, lenStr, Int.reduceBEq, Int.reduceBNe]
  obtain ⟨H, c, k⟩ := tk_ok hG (T := [97, 63, 98, 43]) (S := [98, 98]) (b := true) (by kernel_rfl) (by decide)
  have hG := hG.keep k
  refine goC c k ?_
  try simp only [ruA, ruB, ruC, ruE, ruD, lenStr, Int.reduceBEq, Int.reduceBNe]
  obtain ⟨H, c, k⟩ := tk_ok hG (T := [97, 63, 98, 43]) (S := [97, 97]) (b := false) (by kernel_rfl) (by decide)
  have hG := hG.keep k
  refine goC c k ?_
  try simp only [ruA, ruB, ruC, ruE, ruD, lenStr, Int.reduceBEq, Int.reduceBNe]
  obtain ⟨H, c, k⟩ := tk_ok hG (T := [40, 97, 42, 41, 42, 98]) (S := [97, 97, 97, 98]) (b := true) (by kernel_rfl) (by decide)
  have hG := hG.keep k
  refine goC c k ?_
  try simp only [ruA, ruB, ruC, ruE, ruD, lenStr, Int.reduceBEq, Int.reduceBNe]
  obtain ⟨H, c, k⟩ := tk_ok hG (T := [40, 97, 42, 41, 43]) (S := []) (b := true) (by kernel_rfl) (by decide)
  have hG := hG.keep k
  refine goC c k ?_
  try simp only [ruA, ruB, ruC, ruE, ruD, lenStr, Int.reduceBEq, Int.reduceBNe]
  obtain ⟨H, c, k⟩ := tk_ok hG (T := [32, 126]) (S := [32, 126]) (b := true) (by kernel_rfl) (by decide)
  have hG := hG.keep k
  refine goC c k ?_
  try simp only [ruA, ruB, ruC, ruE, ruD, lenStr, Int.reduceBEq, Int.reduceBNe]
  try simp only [ruA, ruB, ruC, ruE, ruD, lenStr, Int.reduceBEq, Int.reduceBNe, bz]
  obtain ⟨v, H, c, t, k⟩ := one_ok (0) H
  have hG := hG.keep k
  refine goC c k ?_
  try simp only [ruA, ruB, ruC, ruE, ruD, lenStr, Int.reduceBEq, Int.reduceBNe]
  obtain ⟨H, c, k⟩ := prints_ok hG (t := .set (0)) (by decide) t (T := [91, 94, 92, 120, 48, 48, 45, 92, 120, 102, 102, 93]) (by kernel_rfl) (by decide)
  have hG := hG.keep k
  refine goC c k ?_
  try simp only [ruA, ruB, ruC, ruE, ruD, lenStr, Int.reduceBEq, Int.reduceBNe, bz]
  obtain ⟨A, H, e, c, k⟩ := of1_ok (H := H) (c := 10) (by decide)
  have hG := hG.keep k
  have e' : bldS 1 1 [.int .u8 0] [(0, 1, .int .u8 10)] _ = _ := e
  simp only [ruA, ruB, ruC, ruE, ruD, lenStr, Int.reduceBEq, Int.reduceBNe, e']
  refine goB c k ?_
  try simp only [ruA, ruB, ruC, ruE, ruD, lenStr, Int.reduceBEq, Int.reduceBNe]
  obtain ⟨H, c, k⟩ := snot_ok (E := EX) (H := H) rfl (ofS [10])
  have hG := hG.keep k
  refine goC c k ?_
  try simp only [ruA, ruB, ruC, ruE, ruD, lenStr, Int.reduceBEq, Int.reduceBNe]
  obtain ⟨v, H, c, t, k⟩ := one_ok (notS (ofS [10])) H
  have hG := hG.keep k
  refine goC c k ?_
  try simp only [ruA, ruB, ruC, ruE, ruD, lenStr, Int.reduceBEq, Int.reduceBNe]
  obtain ⟨H, c, k⟩ := prints_ok hG (t := .set (notS (ofS [10]))) (by decide) t (T := [46]) (by kernel_rfl) (by decide)
  have hG := hG.keep k
  refine goC c k ?_
  try simp only [ruA, ruB, ruC, ruE, ruD, lenStr, Int.reduceBEq, Int.reduceBNe, bz]
  obtain ⟨A, H, e, c, k⟩ := of1_ok (H := H) (c := 97) (by decide)
  have hG := hG.keep k
  have e' : bldS 1 1 [.int .u8 0] [(0, 1, .int .u8 97)] _ = _ := e
  simp only [ruA, ruB, ruC, ruE, ruD, lenStr, Int.reduceBEq, Int.reduceBNe, e']
  refine goB c k ?_
  try simp only [ruA, ruB, ruC, ruE, ruD, lenStr, Int.reduceBEq, Int.reduceBNe]
  obtain ⟨H, c, k⟩ := snot_ok (E := EX) (H := H) rfl (ofS [97])
  have hG := hG.keep k
  refine goC c k ?_
  try simp only [ruA, ruB, ruC, ruE, ruD, lenStr, Int.reduceBEq, Int.reduceBNe]
  obtain ⟨v, H, c, t, k⟩ := one_ok (notS (ofS [97])) H
  have hG := hG.keep k
  refine goC c k ?_
  try simp only [ruA, ruB, ruC, ruE, ruD, lenStr, Int.reduceBEq, Int.reduceBNe]
  obtain ⟨H, c, k⟩ := prints_ok hG (t := .set (notS (ofS [97]))) (by decide) t (T := [91, 94, 97, 93]) (by kernel_rfl) (by decide)
  have hG := hG.keep k
  refine goC c k ?_
  try simp only [ruA, ruB, ruC, ruE, ruD, lenStr, Int.reduceBEq, Int.reduceBNe, bz]
  obtain ⟨A, H, e, c, k⟩ := of1_ok (H := H) (c := 42) (by decide)
  have hG := hG.keep k
  have e' : bldS 1 1 [.int .u8 0] [(0, 1, .int .u8 42)] _ = _ := e
  simp only [ruA, ruB, ruC, ruE, ruD, lenStr, Int.reduceBEq, Int.reduceBNe, e']
  refine goB c k ?_
  try simp only [ruA, ruB, ruC, ruE, ruD, lenStr, Int.reduceBEq, Int.reduceBNe]
  obtain ⟨v, H, c, t, k⟩ := one_ok (ofS [42]) H
  have hG := hG.keep k
  refine goC c k ?_
  try simp only [ruA, ruB, ruC, ruE, ruD, lenStr, Int.reduceBEq, Int.reduceBNe]
  obtain ⟨H, c, k⟩ := prints_ok hG (t := .set (ofS [42])) (by decide) t (T := [92, 42]) (by kernel_rfl) (by decide)
  have hG := hG.keep k
  refine goC c k ?_
  try simp only [ruA, ruB, ruC, ruE, ruD, lenStr, Int.reduceBEq, Int.reduceBNe, bz]
  obtain ⟨A, H, e, c, k⟩ := of1_ok (H := H) (c := 45) (by decide)
  have hG := hG.keep k
  have e' : bldS 1 1 [.int .u8 0] [(0, 1, .int .u8 45)] _ = _ := e
  simp only [ruA, ruB, ruC, ruE, ruD, lenStr, Int.reduceBEq, Int.reduceBNe, e']
  refine goB c k ?_
  try simp only [ruA, ruB, ruC, ruE, ruD, lenStr, Int.reduceBEq, Int.reduceBNe]
  obtain ⟨v, H, c, t, k⟩ := one_ok (ofS [45]) H
  have hG := hG.keep k
  refine goC c k ?_
  try simp only [ruA, ruB, ruC, ruE, ruD, lenStr, Int.reduceBEq, Int.reduceBNe]
  obtain ⟨H, c, k⟩ := prints_ok hG (t := .set (ofS [45])) (by decide) t (T := [45]) (by kernel_rfl) (by decide)
  have hG := hG.keep k
  refine goC c k ?_
  try simp only [ruA, ruB, ruC, ruE, ruD, lenStr, Int.reduceBEq, Int.reduceBNe, bz]
  obtain ⟨A, H, e, c, k⟩ := of2_ok (H := H) (a := 45) (b := 93) (by decide) (by decide)
  have hG := hG.keep k
  have e' : bldS 1 2 [.int .u8 0] [(0, 1, .int .u8 45), (1, 1, .int .u8 93)] _ = _ := e
  simp only [ruA, ruB, ruC, ruE, ruD, lenStr, Int.reduceBEq, Int.reduceBNe, e']
  refine goB c k ?_
  try simp only [ruA, ruB, ruC, ruE, ruD, lenStr, Int.reduceBEq, Int.reduceBNe]
  obtain ⟨v, H, c, t, k⟩ := one_ok (ofS [45, 93]) H
  have hG := hG.keep k
  refine goC c k ?_
  try simp only [ruA, ruB, ruC, ruE, ruD, lenStr, Int.reduceBEq, Int.reduceBNe]
  obtain ⟨H, c, k⟩ := prints_ok hG (t := .set (ofS [45, 93])) (by decide) t (T := [91, 92, 45, 92, 93, 93]) (by kernel_rfl) (by decide)
  have hG := hG.keep k
  refine goC c k ?_
  try simp only [ruA, ruB, ruC, ruE, ruD, lenStr, Int.reduceBEq, Int.reduceBNe, bz]
  obtain ⟨A, H, e, c, k⟩ := of1_ok (H := H) (c := 0) (by decide)
  have hG := hG.keep k
  have e' : bldS 1 1 [.int .u8 0] [(0, 1, .int .u8 0)] _ = _ := e
  simp only [ruA, ruB, ruC, ruE, ruD, lenStr, Int.reduceBEq, Int.reduceBNe, e']
  refine goB c k ?_
  try simp only [ruA, ruB, ruC, ruE, ruD, lenStr, Int.reduceBEq, Int.reduceBNe]
  obtain ⟨v, H, c, t, k⟩ := one_ok (ofS [0]) H
  have hG := hG.keep k
  refine goC c k ?_
  try simp only [ruA, ruB, ruC, ruE, ruD, lenStr, Int.reduceBEq, Int.reduceBNe]
  obtain ⟨H, c, k⟩ := prints_ok hG (t := .set (ofS [0])) (by decide) t (T := [92, 120, 48, 48]) (by kernel_rfl) (by decide)
  have hG := hG.keep k
  refine goC c k ?_
  try simp only [ruA, ruB, ruC, ruE, ruD, lenStr, Int.reduceBEq, Int.reduceBNe, bz]
  obtain ⟨H, c, k⟩ := sspan_ok (E := EX) (H := H) rfl (x := 9) (y := 13) (by decide) (by decide)
  have hG := hG.keep k
  refine goC c k ?_
  try simp only [ruA, ruB, ruC, ruE, ruD, lenStr, Int.reduceBEq, Int.reduceBNe]
  obtain ⟨v, H, c, t, k⟩ := one_ok (spanS 9 13) H
  have hG := hG.keep k
  refine goC c k ?_
  try simp only [ruA, ruB, ruC, ruE, ruD, lenStr, Int.reduceBEq, Int.reduceBNe]
  obtain ⟨H, c, k⟩ := prints_ok hG (t := .set (spanS 9 13)) (by decide) t (T := [91, 92, 116, 45, 92, 114, 93]) (by kernel_rfl) (by decide)
  have hG := hG.keep k
  refine goC c k ?_
  try simp only [ruA, ruB, ruC, ruE, ruD, lenStr, Int.reduceBEq, Int.reduceBNe, bz]
  obtain ⟨A, H, e, c, k⟩ := of2_ok (H := H) (a := 97) (b := 98) (by decide) (by decide)
  have hG := hG.keep k
  have e' : bldS 1 2 [.int .u8 0] [(0, 1, .int .u8 97), (1, 1, .int .u8 98)] _ = _ := e
  simp only [ruA, ruB, ruC, ruE, ruD, lenStr, Int.reduceBEq, Int.reduceBNe, e']
  refine goB c k ?_
  try simp only [ruA, ruB, ruC, ruE, ruD, lenStr, Int.reduceBEq, Int.reduceBNe]
  obtain ⟨v, H, c, t, k⟩ := one_ok (ofS [97, 98]) H
  have hG := hG.keep k
  refine goC c k ?_
  try simp only [ruA, ruB, ruC, ruE, ruD, lenStr, Int.reduceBEq, Int.reduceBNe]
  obtain ⟨H, c, k⟩ := prints_ok hG (t := .set (ofS [97, 98])) (by decide) t (T := [91, 97, 98, 93]) (by kernel_rfl) (by decide)
  have hG := hG.keep k
  refine goC c k ?_
  try simp only [ruA, ruB, ruC, ruE, ruD, lenStr, Int.reduceBEq, Int.reduceBNe, bz]
  obtain ⟨v, t, H, c, hs, hp, hv, k⟩ := ofp_ok hG (T := [97, 124, 98, 63, 124, 40, 99, 124, 100, 41]) (S := [97, 124, 40, 98, 124, 40, 41, 41, 124, 40, 99, 124, 100, 41]) (by kernel_rfl)
  have hG := hG.keep k
  refine goC c k ?_
  try simp only [ruA, ruB, ruC, ruE, ruD, lenStr, Int.reduceBEq, Int.reduceBNe]
  obtain ⟨H, c, k⟩ := prints_ok hG hs hv (T := [97, 124, 40, 98, 124, 40, 41, 41, 124, 40, 99, 124, 100, 41]) hp (by decide)
  have hG := hG.keep k
  refine goC c k ?_
  try simp only [ruA, ruB, ruC, ruE, ruD, lenStr, Int.reduceBEq, Int.reduceBNe]
  obtain ⟨v, t, H, c, hs, hp, hv, k⟩ := ofp_ok hG (T := [40, 97, 98, 41, 99, 40, 100, 101, 41, 43]) (S := [97, 98, 99, 40, 100, 101, 41, 43]) (by kernel_rfl)
  have hG := hG.keep k
  refine goC c k ?_
  try simp only [ruA, ruB, ruC, ruE, ruD, lenStr, Int.reduceBEq, Int.reduceBNe]
  obtain ⟨H, c, k⟩ := prints_ok hG hs hv (T := [97, 98, 99, 40, 100, 101, 41, 43]) hp (by decide)
  have hG := hG.keep k
  refine goC c k ?_
  try simp only [ruA, ruB, ruC, ruE, ruD, lenStr, Int.reduceBEq, Int.reduceBNe]
  obtain ⟨v, t, H, c, hs, hp, hv, k⟩ := ofp_ok hG (T := [97, 40, 98, 99, 41]) (S := [97, 40, 98, 99, 41]) (by kernel_rfl)
  have hG := hG.keep k
  refine goC c k ?_
  try simp only [ruA, ruB, ruC, ruE, ruD, lenStr, Int.reduceBEq, Int.reduceBNe]
  obtain ⟨H, c, k⟩ := prints_ok hG hs hv (T := [97, 40, 98, 99, 41]) hp (by decide)
  have hG := hG.keep k
  refine goC c k ?_
  try simp only [ruA, ruB, ruC, ruE, ruD, lenStr, Int.reduceBEq, Int.reduceBNe]
  obtain ⟨v, t, H, c, hs, hp, hv, k⟩ := ofp_ok hG (T := [40, 97, 124, 98, 41, 99]) (S := [40, 97, 124, 98, 41, 99]) (by kernel_rfl)
  have hG := hG.keep k
  refine goC c k ?_
  try simp only [ruA, ruB, ruC, ruE, ruD, lenStr, Int.reduceBEq, Int.reduceBNe]
  obtain ⟨H, c, k⟩ := prints_ok hG hs hv (T := [40, 97, 124, 98, 41, 99]) hp (by decide)
  have hG := hG.keep k
  refine goC c k ?_
  try simp only [ruA, ruB, ruC, ruE, ruD, lenStr, Int.reduceBEq, Int.reduceBNe]
  exact J H hG
end Go.Eng
