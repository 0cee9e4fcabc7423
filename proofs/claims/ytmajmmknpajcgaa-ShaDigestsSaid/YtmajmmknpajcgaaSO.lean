/- The chapter's examples hold. -/
import Derived.Test.YtmajmmknpajcgaaSN
set_option linter.unusedVariables false
set_option linter.unusedSimpArgs false
set_option linter.unusedSectionVars false
set_option maxRecDepth 100000
namespace Go.Eng
open Go Go.Proofs

theorem bld3b {H : Heap} {a b c : Nat} : bldS 1 3 [.int .u8 0] [(0, 1, .int .u8 (a : Int)), (1, 1, .int .u8 (b : Int)), (2, 1, .int .u8 (c : Int))] H = some (.slice (some ⟨H.n, 0, none⟩) 3 3, H.push ⟨B [a, b, c], 1, true⟩) := by rfl
theorem awake_ok (H : Heap) : ∃ H', Cl 13 [] H (.bool true) H' ∧ Keep (all H) H H' := by
  obtain ⟨H1, c1, k1⟩ := of_ok (H := H) (d := []) (v := nilS) Sl.nil (by simp) (by simp)
  obtain ⟨H2, hH2⟩ : ∃ H2, H1.push ⟨B [97, 98, 99], 1, true⟩ = H2 := ⟨_, rfl⟩
  have k2 : Keep (all H1) H1 H2 := by rw [← hH2]; exact push_keep
  have hs : Sl (all H2) H2 1 (.slice (some ⟨H1.n, 0, none⟩) 3 3) ([97, 98, 99] : List Nat).length (B [97, 98, 99]) := by
    rw [← hH2]; exact push_Sl (d := [97, 98, 99]) (by simp [all, push_n])
  obtain ⟨H3, c3, k3⟩ := of_ok hs (by decide) (by decide)
  refine ⟨H3, ?_, k1.trans ((k2.mono (upA k1)).trans (k3.mono (upA (k1.trans (k2.mono (upA k1))))))⟩
  refine Ev.enter (fun n => f13_eq rfl n _) ?_
  have r0 := root_ok 2 0 H
  have e0 : rootN 2 0 = (.int .u32 0, .int .i64 2) := by unfold rootN; rw [if_neg (by omega)]
  rw [e0] at r0
  have q1 := rootB_ok (p := 2) (n := 2) (.inl rfl) (by omega) (by omega) 0x6a09e667 H
  have q2 := rootB_ok (p := 3) (n := 2) (.inr rfl) (by omega) (by omega) 0x428a2f98 H
  have q3 := rootB_ok (p := 2) (n := 4) (.inl rfl) (by omega) (by omega) 0 H
  rw [w22] at q1
  rw [w32] at q2
  rw [w24] at q3
  have hx1 := hexN_cl (l := shaD []) (outB_byte _) (outB_len _) H1
  have hx3 := hexN_cl (l := shaD [97, 98, 99]) (outB_byte _) (outB_len _) H3
  rw [sha0] at hx1
  rw [sha3] at hx3
  have b3 : bldS 1 3 [.int .u8 0] [(0, 1, .int .u8 97), (1, 1, .int .u8 98), (2, 1, .int .u8 99)] H1 = some (.slice (some ⟨H1.n, 0, none⟩) 3 3, H2) := by rw [← hH2]; rfl
  have mk : markV (.slice (some ⟨H1.n, 0, none⟩) 3 3) H2 = some (.slice (some ⟨H1.n, 0, none⟩) 3 3, H2) := by rw [← hH2]; exact mark_push (by omega)
  have tt : ∀ x : UInt32, (x == x) = true := fun x => by simp
  have se : ∀ l : List UInt8, ((bs l).toList == (bs l).toList) = true := fun l => by rw [bs_beq]; simp
  have g0 : (⟨#[101, 51, 98, 48, 99, 52, 52, 50, 57, 56, 102, 99, 49, 99, 49, 52, 57, 97, 102, 98, 102, 52, 99, 56, 57, 57, 54, 102, 98, 57, 50, 52, 50, 55, 97, 101, 52, 49, 101, 52, 54, 52, 57, 98, 57, 51, 52, 99, 97, 52, 57, 53, 57, 57, 49, 98, 55, 56, 53, 50, 98, 56, 53, 53]⟩ : ByteArray) = bs dg0 := by rfl
  have g3 : (⟨#[98, 97, 55, 56, 49, 54, 98, 102, 56, 102, 48, 49, 99, 102, 101, 97, 52, 49, 52, 49, 52, 48, 100, 101, 53, 100, 97, 101, 50, 50, 50, 51, 98, 48, 48, 51, 54, 49, 97, 51, 57, 54, 49, 55, 55, 97, 57, 99, 98, 52, 49, 48, 102, 102, 54, 49, 102, 50, 48, 48, 49, 53, 97, 100]⟩ : ByteArray) = bs dg3 := by rfl
  simp only [f13, ruA, ruB, ruC, ruE, ruD, lenStr, Int.reduceBEq, Int.reduceBNe]
  refine Ev.callC r0 ?_
  simp only [ruA, ruB, ruC, ruE, ruD, lenStr, Int.reduceBEq, Int.reduceBNe]
  refine Ev.callC q1 ?_
  simp only [ruA, ruB, ruC, ruE, ruD, lenStr, Int.reduceBEq, Int.reduceBNe, tt]
  refine Ev.callC q2 ?_
  simp only [ruA, ruB, ruC, ruE, ruD, lenStr, Int.reduceBEq, Int.reduceBNe, tt]
  refine Ev.callC q3 ?_
  simp only [ruA, ruB, ruC, ruE, ruD, lenStr, Int.reduceBEq, Int.reduceBNe, tt]
  refine Ev.callC c1 ?_
  refine Ev.callC hx1 ?_
  rw [g0, g3]
  simp only [ruA, ruB, ruC, ruE, ruD, lenStr, Int.reduceBEq, Int.reduceBNe, se, b3, mk]
  refine Ev.callC c3 ?_
  refine Ev.callC hx3 ?_
  simp only [ruA, ruB, ruC, ruE, ruD, lenStr, Int.reduceBEq, Int.reduceBNe, se]
  exact Ev.pure _
end Go.Eng
