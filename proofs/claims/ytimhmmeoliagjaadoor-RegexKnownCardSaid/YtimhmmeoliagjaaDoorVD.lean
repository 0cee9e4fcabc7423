import Derived.Test.YtimhmmeoliagjaaDoorVC
set_option linter.unusedVariables false
set_option linter.unusedSimpArgs false
set_option linter.unusedSectionVars false
set_option maxRecDepth 100000
namespace Go.Eng
open Go Go.Proofs

def ndZ : Nd := ⟨0, 0, 0, 0⟩
theorem rep_NDZ : ∀ n, rep n (ND ndZ) = NDS (List.replicate n ndZ)
  | 0 => rfl
  | n + 1 => by
    rw [List.replicate_succ, show NDS (ndZ :: List.replicate n ndZ) = ND ndZ ++ NDS (List.replicate n ndZ) from rfl, ← rep_NDZ n]
    rfl
theorem mkZ_ok (H : Heap) : mkS 7 56 [(.int .i64 0), (.int .u64 0), (.int .u64 0), (.int .u64 0), (.int .u64 0), (.int .i64 0), (.int .i64 0)] (.int .i64 257) (.int .i64 257) H = some (.slice (some ⟨H.n, 0, none⟩) (List.replicate 257 ndZ).length (List.replicate 257 ndZ).length, H.push ⟨NDS (List.replicate 257 ndZ), 7, true⟩) := by
  have hm : mostBytes = 140737488355328 := rfl
  have ho : (NDS (List.replicate 257 ndZ)).all oneC = true := by kernel_rfl
  have hr : rep (257 : Int).toNat [(.int .i64 0), (.int .u64 0), (.int .u64 0), (.int .u64 0), (.int .u64 0), (.int .i64 0), (.int .i64 0)] = NDS (List.replicate 257 ndZ) := rep_NDZ 257
  simp only [mkS]
  rw [if_pos ⟨by omega, by omega, by omega, rfl, by omega, by omega⟩, hr]
  simp only [newS, ho, if_true]
  rfl
theorem slN (H : Heap) (l : List Nd) : Sl (all (H.push ⟨NDS l, 7, true⟩)) (H.push ⟨NDS l, 7, true⟩) 7 (.slice (some ⟨H.n, 0, none⟩) l.length l.length) l.length (NDS l) :=
  .inr (.inr ⟨H.n, 0, none, l.length, _, rfl, by simp [all, push_n], push_self, by simp [NDS_len], Nat.le_refl _, by simp only [cut, List.drop_zero]; rw [List.take_of_length_le (by simp [NDS_len])]⟩)
theorem chk_push (H : Heap) {l : List Nd} {e : Int} (h : chkN l = e) : ∃ H2, ClX 16 [.agg #[.slice (some ⟨H.n, 0, none⟩) l.length l.length]] (H.push ⟨NDS l, 7, true⟩) (.int .i64 e) H2 ∧ Keep (all H) H H2 := by
  obtain ⟨H2, c, k⟩ := check_ok (slN H l)
  rw [h] at c
  exact ⟨H2, c, push_keep.trans (k.mono (upA push_keep))⟩
theorem kn_third {H : Heap} (hG : G9 H) (J : ∀ H1, G9 H1 → Run H1 fun n _ => f10_J3 real (AX n) n (.bool true) (.bool true) (.bool true) (.bool true) (.bool true) H1) : Run H fun n _ => f10_J2 real (AX n) n (.bool true) (.bool true) (.bool true) (.bool true) H := by
  have bn : ∀ G : Heap, bld [(.slice none 0 0)] [] G = some (.agg #[.slice none 0 0], G) := fun G => rfl
  have b1 : ∀ (G : Heap) (a : Option Addr) (n m : Nat), bld [(.slice none 0 0)] [(0, 1, .slice a n m)] G = some (.agg #[.slice a n m], G) := fun G a n m => rfl
  unfold f10_J2
  simp only [ruA, ruB, ruC, ruE, ruD, lenStr, Int.reduceBEq, Int.reduceBNe, bn]
  obtain ⟨H, c, k⟩ := check_ok (l := []) (v := .slice none 0 0) (H := H) Sl.nil
  have hG := hG.keep k
  rw [show chkN [] = 2 by kernel_rfl] at c
  refine goC c k ?_
  simp only [ruA, ruB, ruC, ruE, ruD, lenStr, Int.reduceBEq, Int.reduceBNe, mkZ_ok, b1]
  obtain ⟨A, c, k⟩ := chk_push H (l := List.replicate 257 ndZ) (e := 5) (by kernel_rfl)
  refine goB c k ?_
  have hG := hG.keep k
  have e0 : ∀ G : Heap, bld [(.int .i64 0), (.int .u64 0), (.int .u64 0), (.int .u64 0), (.int .u64 0), (.int .i64 0), (.int .i64 0)] [(0, 1, (.int .i64 1)), (5, 1, (.int .i64 1))] G = some (.agg (ND ⟨1, 0, 1, 0⟩).toArray, G) := fun G => rfl
  have e9 : bldS 7 1 [(.int .i64 0), (.int .u64 0), (.int .u64 0), (.int .u64 0), (.int .u64 0), (.int .i64 0), (.int .i64 0)] [(0, 7, .agg (ND ⟨1, 0, 1, 0⟩).toArray)] A = some (.slice (some ⟨A.n, 0, none⟩) 1 1, A.push ⟨NDS [⟨1, 0, 1, 0⟩], 7, true⟩) := rfl
  simp only [ruA, ruB, ruC, ruE, ruD, lenStr, Int.reduceBEq, Int.reduceBNe, e0, e9, b1]
  obtain ⟨A1, c, k⟩ := chk_push A (l := [⟨1, 0, 1, 0⟩]) (e := 2) (by kernel_rfl)
  refine goB c k ?_
  have hG := hG.keep k
  have e0 : ∀ G : Heap, bld [(.int .i64 0), (.int .u64 0), (.int .u64 0), (.int .u64 0), (.int .u64 0), (.int .i64 0), (.int .i64 0)] [(0, 1, (.int .i64 1))] G = some (.agg (ND ⟨1, 0, 0, 0⟩).toArray, G) := fun G => rfl
  have e1 : ∀ G : Heap, bld [(.int .i64 0), (.int .u64 0), (.int .u64 0), (.int .u64 0), (.int .u64 0), (.int .i64 0), (.int .i64 0)] [(0, 1, (.int .i64 1))] G = some (.agg (ND ⟨1, 0, 0, 0⟩).toArray, G) := fun G => rfl
  have e9 : bldS 7 2 [(.int .i64 0), (.int .u64 0), (.int .u64 0), (.int .u64 0), (.int .u64 0), (.int .i64 0), (.int .i64 0)] [(0, 7, .agg (ND ⟨1, 0, 0, 0⟩).toArray), (7, 7, .agg (ND ⟨1, 0, 0, 0⟩).toArray)] A1 = some (.slice (some ⟨A1.n, 0, none⟩) 2 2, A1.push ⟨NDS [⟨1, 0, 0, 0⟩, ⟨1, 0, 0, 0⟩], 7, true⟩) := rfl
  simp only [ruA, ruB, ruC, ruE, ruD, lenStr, Int.reduceBEq, Int.reduceBNe, e0, e1, e9, b1]
  obtain ⟨A2, c, k⟩ := chk_push A1 (l := [⟨1, 0, 0, 0⟩, ⟨1, 0, 0, 0⟩]) (e := 2) (by kernel_rfl)
  refine goB c k ?_
  have hG := hG.keep k
  have e0 : ∀ G : Heap, bld [(.int .i64 0), (.int .u64 0), (.int .u64 0), (.int .u64 0), (.int .u64 0), (.int .i64 0), (.int .i64 0)] [(0, 1, (.int .i64 5))] G = some (.agg (ND ⟨5, 0, 0, 0⟩).toArray, G) := fun G => rfl
  have e9 : bldS 7 1 [(.int .i64 0), (.int .u64 0), (.int .u64 0), (.int .u64 0), (.int .u64 0), (.int .i64 0), (.int .i64 0)] [(0, 7, .agg (ND ⟨5, 0, 0, 0⟩).toArray)] A2 = some (.slice (some ⟨A2.n, 0, none⟩) 1 1, A2.push ⟨NDS [⟨5, 0, 0, 0⟩], 7, true⟩) := rfl
  simp only [ruA, ruB, ruC, ruE, ruD, lenStr, Int.reduceBEq, Int.reduceBNe, e0, e9, b1]
  obtain ⟨A3, c, k⟩ := chk_push A2 (l := [⟨5, 0, 0, 0⟩]) (e := 2) (by kernel_rfl)
  refine goB c k ?_
  have hG := hG.keep k
  have s0 : ∀ G : Heap, bld [(.int .u64 0), (.int .u64 0), (.int .u64 0), (.int .u64 0)] [(0, 1, (.int .u64 1))] G = some (.agg (SC 1).toArray, G) := fun G => rfl
  have e0 : ∀ G : Heap, bld [(.int .i64 0), (.int .u64 0), (.int .u64 0), (.int .u64 0), (.int .u64 0), (.int .i64 0), (.int .i64 0)] [(0, 1, (.int .i64 1)), (1, 4, .agg (SC 1).toArray)] G = some (.agg (ND ⟨1, 1, 0, 0⟩).toArray, G) := fun G => rfl
  have e9 : bldS 7 1 [(.int .i64 0), (.int .u64 0), (.int .u64 0), (.int .u64 0), (.int .u64 0), (.int .i64 0), (.int .i64 0)] [(0, 7, .agg (ND ⟨1, 1, 0, 0⟩).toArray)] A3 = some (.slice (some ⟨A3.n, 0, none⟩) 1 1, A3.push ⟨NDS [⟨1, 1, 0, 0⟩], 7, true⟩) := rfl
  simp only [ruA, ruB, ruC, ruE, ruD, lenStr, Int.reduceBEq, Int.reduceBNe, s0, e0, e9, b1]
  obtain ⟨A4, c, k⟩ := chk_push A3 (l := [⟨1, 1, 0, 0⟩]) (e := 2) (by kernel_rfl)
  refine goB c k ?_
  have hG := hG.keep k
  have e0 : ∀ G : Heap, bld [(.int .i64 0), (.int .u64 0), (.int .u64 0), (.int .u64 0), (.int .u64 0), (.int .i64 0), (.int .i64 0)] [(0, 1, (.int .i64 1))] G = some (.agg (ND ⟨1, 0, 0, 0⟩).toArray, G) := fun G => rfl
  have e1 : ∀ G : Heap, bld [(.int .i64 0), (.int .u64 0), (.int .u64 0), (.int .u64 0), (.int .u64 0), (.int .i64 0), (.int .i64 0)] [(0, 1, (.int .i64 1))] G = some (.agg (ND ⟨1, 0, 0, 0⟩).toArray, G) := fun G => rfl
  have e2 : ∀ G : Heap, bld [(.int .i64 0), (.int .u64 0), (.int .u64 0), (.int .u64 0), (.int .u64 0), (.int .i64 0), (.int .i64 0)] [(0, 1, (.int .i64 3)), (5, 1, (.int .i64 1)), (6, 1, (.int .i64 1))] G = some (.agg (ND ⟨3, 0, 1, 1⟩).toArray, G) := fun G => rfl
  have e9 : bldS 7 3 [(.int .i64 0), (.int .u64 0), (.int .u64 0), (.int .u64 0), (.int .u64 0), (.int .i64 0), (.int .i64 0)] [(0, 7, .agg (ND ⟨1, 0, 0, 0⟩).toArray), (7, 7, .agg (ND ⟨1, 0, 0, 0⟩).toArray), (14, 7, .agg (ND ⟨3, 0, 1, 1⟩).toArray)] A4 = some (.slice (some ⟨A4.n, 0, none⟩) 3 3, A4.push ⟨NDS [⟨1, 0, 0, 0⟩, ⟨1, 0, 0, 0⟩, ⟨3, 0, 1, 1⟩], 7, true⟩) := rfl
  simp only [ruA, ruB, ruC, ruE, ruD, lenStr, Int.reduceBEq, Int.reduceBNe, e0, e1, e2, e9, b1]
  obtain ⟨A5, c, k⟩ := chk_push A4 (l := [⟨1, 0, 0, 0⟩, ⟨1, 0, 0, 0⟩, ⟨3, 0, 1, 1⟩]) (e := 2) (by kernel_rfl)
  refine goB c k ?_
  have hG := hG.keep k
  have e0 : ∀ G : Heap, bld [(.int .i64 0), (.int .u64 0), (.int .u64 0), (.int .u64 0), (.int .u64 0), (.int .i64 0), (.int .i64 0)] [(0, 1, (.int .i64 7))] G = some (.agg (ND ⟨7, 0, 0, 0⟩).toArray, G) := fun G => rfl
  have e9 : bldS 7 1 [(.int .i64 0), (.int .u64 0), (.int .u64 0), (.int .u64 0), (.int .u64 0), (.int .i64 0), (.int .i64 0)] [(0, 7, .agg (ND ⟨7, 0, 0, 0⟩).toArray)] A5 = some (.slice (some ⟨A5.n, 0, none⟩) 1 1, A5.push ⟨NDS [⟨7, 0, 0, 0⟩], 7, true⟩) := rfl
  simp only [ruA, ruB, ruC, ruE, ruD, lenStr, Int.reduceBEq, Int.reduceBNe, e0, e9, b1]
  obtain ⟨A6, c, k⟩ := chk_push A5 (l := [⟨7, 0, 0, 0⟩]) (e := 2) (by kernel_rfl)
  refine goB c k ?_
  have hG := hG.keep k
  try simp only [ruA, ruB, ruC, ruE, ruD, lenStr, Int.reduceBEq, Int.reduceBNe]
  exact J A6 hG
end Go.Eng
