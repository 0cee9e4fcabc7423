/- Parse and Hex take each other back. -/
import Derived.Test.YtmajmmknpajcgaaSU
set_option linter.unusedVariables false
set_option linter.unusedSimpArgs false
set_option linter.unusedSectionVars false
set_option maxRecDepth 100000
namespace Go.Eng
open Go Go.Proofs

theorem parR_or (l : List UInt8) : (∃ ds, parR l = (ds, 0) ∧ hexN ds = l) ∨ parR l = (List.replicate 32 0, 4) := by
  unfold parR
  split
  · rename_i h
    cases hp : parL l with
    | none => exact .inr rfl
    | some ds => exact .inl ⟨ds, rfl, hex_par (by omega) hp⟩
  · exact .inr rfl
theorem hexL_txt {ds : List UInt8} (h : ds.length = 32) : parR (hexL ds) = (U ds, 0) := by
  unfold parR
  rw [if_pos (by rw [hexL_len]; omega), par_hex]
theorem back_law {H : Heap} {ds : List UInt8} (hd : ds.length = 32) (l : List UInt8) : ∃ H', Cl 10 [.agg (B (U ds)).toArray, .string (bs l)] H (.bool true) H' := by
  have hU : (B (U ds)).length = 32 := by rw [B_length, U_len, hd]
  obtain ⟨H1, hH1⟩ : ∃ H1, H.push ⟨B (U ds), 1, true⟩ = H1 := ⟨_, rfl⟩
  have n1 : H1.n = H.n + 1 := by rw [← hH1]; rfl
  have g1 : H1.get H.n = some ⟨B (U ds), 1, true⟩ := by rw [← hH1]; exact push_self
  obtain ⟨H2, c2, k2⟩ := parse_ok (hexL ds) H1
  rw [hexL_txt hd] at c2
  obtain ⟨H3, hH3⟩ : ∃ H3, H2.push ⟨B (U ds), 1, true⟩ = H3 := ⟨_, rfl⟩
  have n2 := k2.1
  have n3 : H3.n = H2.n + 1 := by rw [← hH3]; rfl
  obtain ⟨H4, c4, k4⟩ := parse_ok l H3
  have n4 := k4.1
  obtain ⟨H5, hH5⟩ : ∃ H5, H4.push ⟨B (parR l).1, 1, true⟩ = H5 := ⟨_, rfl⟩
  have gd : H5.get H.n = some ⟨B (U ds), 1, true⟩ := by
    rw [← hH5, push_lt (by omega), k4.2 _ (show H.n < H3.n by omega), ← hH3, push_lt (by omega), k2.2 _ (show H.n < H1.n by omega)]; exact g1
  have g6 : H5.get H2.n = some ⟨B (U ds), 1, true⟩ := by
    rw [← hH5, push_lt (by omega), k4.2 _ (show H2.n < H3.n by omega), ← hH3]; exact push_self
  have g8 : H5.get H4.n = some ⟨B (parR l).1, 1, true⟩ := by rw [← hH5]; exact push_self
  have hP : (B (parR l).1).length = 32 := by rw [B_length, parR_len]
  obtain ⟨H', ha, _⟩ := awake_ok H5
  have hz32 : (B (List.replicate 32 0)).length = 32 := by rw [B_length, List.length_replicate]
  have hls : (((bs (hexL ds)).size : Int) == 64) = true := by
    simp [bs, ByteArray.size, hexL_len, hd]
  have e64 : ((64 : Int) == 64) = true := rfl
  have e00 : ((0 : Int) == 0) = true := rfl
  have e04 : ((0 : Int) == 4) = false := rfl
  have e44 : ((4 : Int) == 4) = true := rfl
  have e40 : ((4 : Int) == 0) = false := rfl
  have q1 := eq_bytes (l := U ds) (by rw [U_len, hd]) (U_byte ds)
  have q2 := eq_bytes (l := List.replicate 32 0) (by rw [List.length_replicate]) (fun c hc => by rw [List.mem_replicate] at hc; omega)
  refine ⟨H', Ev.enter (fun n => f10_eq rfl n _ _ _) ?_⟩
  simp only [f10, ruA, ruB, ruC, ruE, ruD, lenStr, Int.reduceBEq, Int.reduceBNe, newA (B_one (U ds)), hH1, ldAG g1 hU]
  refine Ev.callC (hex_cl hd) ?_
  simp only [ruA, ruB, ruC, ruE, ruD, lenStr, Int.reduceBEq, Int.reduceBNe]
  refine Ev.callC c2 ?_
  simp only [ruA, ruB, ruC, ruE, ruD, lenStr, Int.reduceBEq, Int.reduceBNe, rep_B, newV_box (B_one _)]
  rw [stA_push hz32 hU (B_one _), hH3]
  simp only [ruA, ruB, ruC, ruE, ruD, lenStr, Int.reduceBEq, Int.reduceBNe]
  refine Ev.callC c4 ?_
  simp only [ruA, ruB, ruC, ruE, ruD, lenStr, Int.reduceBEq, Int.reduceBNe, newV_box (B_one _)]
  rw [stA_push hz32 hP (B_one _), hH5]
  simp only [ruA, ruB, ruC, ruE, ruD, lenStr, Int.reduceBEq, Int.reduceBNe, hls, e64, e00, ldAG g6 hU, ldAG gd hU, q1]
  rcases parR_or l with ⟨es, hp, hx⟩ | hp
  · have hl32 : es.length = 32 := by have := parR_len l; rw [hp] at this; exact this
    have hb := parR_byte l
    rw [hp] at g8 hb ⊢
    have h8 : (B es).length = 32 := by rw [B_length, hl32]
    have hxc := hexN_cl hb hl32 H5
    rw [hx] at hxc
    have se : ((bs l).toList == (bs l).toList) = true := by rw [bs_beq]; simp
    simp only [ruA, ruB, ruC, ruE, ruD, lenStr, Int.reduceBEq, Int.reduceBNe, e04, e00, ldAG g8 h8]
    refine Ev.callC hxc ?_
    simp only [ruA, ruB, ruC, ruE, ruD, lenStr, Int.reduceBEq, Int.reduceBNe, se]
    refine Ev.callC ha ?_
    exact Ev.pure _
  · rw [hp] at g8 ⊢
    simp only [ruA, ruB, ruC, ruE, ruD, lenStr, Int.reduceBEq, Int.reduceBNe, e44, e40, ldAG g8 hz32, bld32, q2]
    refine Ev.callC ha ?_
    exact Ev.pure _
end Go.Eng
