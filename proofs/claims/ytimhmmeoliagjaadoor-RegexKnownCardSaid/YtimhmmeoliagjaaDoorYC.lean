import Derived.Test.YtimhmmeoliagjaaDoorYA
import Derived.Lib.AppendStr
set_option linter.unusedVariables false
set_option linter.unusedSimpArgs false
set_option maxRecDepth 100000
namespace Go.Proofs
open Go.RowKit Go.Shelf Go.Eng

def Bd (B b : Nat) (l : List UInt8) (w : World) : Prop := b < B ∧ B ≤ w.heap.size ∧ ∃ p v, (p = .pointer none ∨ p = .pointer (some ⟨b, 0, none⟩)) ∧ w.heap[b]? = some (.cells #[p, v] 91 (0, 0)) ∧ w.ownsRow B 5 1 v l.length (Lib.byteCells l) ∧ (l = [] → v = .slice none 0 0)
structure But1 (B b : Nat) (w w' : World) : Prop where
  size : w.heap.size ≤ w'.heap.size
  same : ∀ k, k < B → k ≠ b → w'.heap[k]? = w.heap[k]?
  os : w'.os = w.os
  tape : w'.tape = w.tape
  output : w'.output = w.output
theorem But1.refl (B b : Nat) (w : World) : But1 B b w w := ⟨Nat.le_refl _, fun _ _ _ => rfl, rfl, rfl, rfl⟩
theorem But1.trans {B b : Nat} {x y z : World} (h : But1 B b x y) (h' : But1 B b y z) : But1 B b x z :=
  ⟨Nat.le_trans h.size h'.size, fun k h1 h2 => (h'.same k h1 h2).trans (h.same k h1 h2), h'.os.trans h.os, h'.tape.trans h.tape, h'.output.trans h.output⟩
theorem But1.setB (B b : Nat) (w : World) (j : Nat) (v : Value) : But1 B b w (w.setCell ⟨b, j, none⟩ v) :=
  ⟨(KeepsWalks.setCell w _ v).size, fun k _ h => Below.heap_setCell _ _ _ _ h, rfl, rfl, rfl⟩
theorem But1.of_below {B b : Nat} {w w' : World} (h : Below B w w') : But1 B b w w' := ⟨h.size, fun k h1 _ => h.block k h1, h.os, h.tape, h.output⟩
theorem But1.below {B b : Nat} {w w' : World} (h : But1 B b w w') (hb : b ≤ B) : Below b w w' := ⟨h.os, h.tape, h.output, h.size, fun k hk => h.same k (by omega) (by omega)⟩
theorem Bd.keep {B b : Nat} {l : List UInt8} {w w' : World} (h : Bd B b l w) (hb : Below w.heap.size w w') : Bd B b l w' := by
  obtain ⟨h1, h2, p, v, hp, hbk, hrow, hnil⟩ := h
  refine ⟨h1, Nat.le_trans h2 hb.size, p, v, hp, (hb.block b (by omega)).trans hbk, ⟨hrow.1, ?_⟩, hnil⟩
  rcases hrow.2 with h | ⟨g, cap, cur, q1, q2, q3, q4⟩
  · exact .inl h
  · exact .inr ⟨g, cap, cur, q1, q2, (hb.block g (Array.getElem?_eq_some_iff.1 q3).1).trans q3, q4⟩
theorem bd_row_set {B b : Nat} {v : Value} {n : Nat} {xs : List Value} {w : World} (hb : b < B) (h : w.ownsRow B 5 1 v n xs) (j : Nat) (u : Value) : (w.setCell ⟨b, j, none⟩ u).ownsRow B 5 1 v n xs := by
  refine ⟨h.1, ?_⟩
  rcases h.2 with h | ⟨g, cap, cur, q1, q2, q3, q4⟩
  · exact .inl h
  · exact .inr ⟨g, cap, cur, q1, q2, (Below.heap_setCell _ _ _ _ (show g ≠ b by omega)).trans q3, q4⟩
set_option maxHeartbeats 2000000 in
theorem qWrite2 (B b : Nat) (l t : List UInt8) (w : World) (h : Bd B b l w) (hlen : l.length + t.length ≤ 140737488355328) :
    Calls Tryd.prog 52 #[.pointer (some ⟨b, 0, none⟩), .string ⟨t.toArray⟩] w fun e w' => (∃ v, e = .returned v) ∧ Bd B b (l ++ t) w' ∧ But1 B b w w' := by
  obtain ⟨hbB, hBw, p, v, hp, hbk, hrow, hnil⟩ := h
  have hbl : b < w.heap.size := by omega
  obtain ⟨i0, hi, hz0, hz1, hz2⟩ := info_parts Tryd.extraWS.infoByte
  have cc : Calls Tryd.prog 72 #[.pointer (some ⟨b, 0, none⟩)] w fun e w1 => e = .returned (.tuple #[]) ∧ w1.heap[b]? = some (.cells #[.pointer (some ⟨b, 0, none⟩), v] 91 (0, 0)) ∧ w1.ownsRow B 5 1 v l.length (Lib.byteCells l) ∧ But1 B b w w1 := by
    rcases hp with rfl | rfl
    · refine (Any.Builder_copyCheck_fresh { Tryd.laysWS with } Tryd.extraWS.toX72 b w ?_ ?_ ?_).mono ?_
      · simp [World.cell?, hbk]
      · simp [World.shape?, hbk]; kernel_rfl
      · simp [World.frozen?, hbk]
      · rintro e w' ⟨rfl, rfl⟩
        exact ⟨rfl, by simp [World.setCell, Array.getElem?_modify, hbk], bd_row_set hbB hrow _ _, But1.setB _ _ _ _ _⟩
    · refine (Any.Builder_copyCheck_used { Tryd.laysWS with } Tryd.extraWS.toX72 b w ?_).mono ?_
      · simp [World.cell?, hbk]
      · rintro e w' ⟨rfl, rfl⟩
        exact ⟨rfl, hbk, hrow, But1.refl _ _ _⟩
  go_enter Tryd.func52, Tryd.ntmps52
  go_wp2_with (go_at_call 72; refine cc.mono ?_)
  rintro e w1 ⟨rfl, hbk1, hrow1, hk1⟩
  have c0 : w1.cell? ⟨b, 0, none⟩ = some (.pointer (some ⟨b, 0, none⟩)) := by rw [Lib.cell_of_heap hbk1]; rfl
  have c1 : w1.cell? ⟨b, 1, none⟩ = some v := by rw [Lib.cell_of_heap hbk1]; rfl
  have hsz : (ByteArray.mk t.toArray).size = t.length := by simp [ByteArray.size]
  go_wp2_with (at_builtin; refine Lib.wpList_append_own_string _ rfl _ _ 35 9 rfl B 5 i0 Tryd.underlying35 Tryd.underlying9 hi hz0 hz1 hz2 _ _ _ rfl hrow1 ⟨t.toArray⟩ rfl ?c3 ?c4 ?c5 ?_)
  case c3 => unfold maxLen; omega
  case c4 => omega
  case c5 => have := hk1.size; omega
  intro v' w2 hown' hgrow hnil'
  have hne : some b ≠ v.ownBlock := by
    rcases hrow1.2 with ⟨rfl, _⟩ | ⟨g, cap, cur, rfl, q2, _⟩
    · simp [Value.ownBlock]
    · simp [Value.ownBlock]; omega
  have hb2 : w2.heap[b]? = some (.cells #[.pointer (some ⟨b, 0, none⟩), v] 91 (0, 0)) := by
    rw [hgrow.block b (by have := hk1.size; omega) hne]
    exact hbk1
  have d0 : w2.cell? ⟨b, 0, none⟩ = some (.pointer (some ⟨b, 0, none⟩)) := by rw [Lib.cell_of_heap hb2]; rfl
  have d1 : w2.cell? ⟨b, 1, none⟩ = some v := by rw [Lib.cell_of_heap hb2]; rfl
  have f1 : w2.frozen? ⟨b, 1, none⟩ = false := Lib.frozen_of_heap hb2 1
  obtain ⟨ao, n', cap, rfl⟩ : ∃ ao n' cap, v' = .slice ao n' cap := by
    rcases hown'.2 with ⟨hv, _⟩ | ⟨g, cap, cur, hv, _⟩
    · exact ⟨_, _, _, hv⟩
    · exact ⟨_, _, _, hv⟩
  have k2 : But1 B b w1 w2 := ⟨hgrow.size, fun k h1 h2 => hgrow.block k (by have := hk1.size; omega) (by
    rcases hrow1.2 with ⟨rfl, _⟩ | ⟨g, cap, cur, rfl, q2, _⟩
    · simp [Value.ownBlock]
    · simp [Value.ownBlock]; omega), hgrow.os, hgrow.tape, hgrow.output⟩
  go_wp2
  go_ret2
  refine ⟨⟨_, rfl⟩, ⟨hbB, ?_, .pointer (some ⟨b, 0, none⟩), .slice ao n' cap, .inr rfl, ?_, ?_, ?_⟩, (hk1.trans k2).trans (But1.setB _ _ _ _ _)⟩
  · have := hk1.size; have := k2.size; have := (But1.setB B b w2 1 (.slice ao n' cap)).size; omega
  · simp [World.setCell, Array.getElem?_modify, hb2]
  · refine bd_row_set hbB ?_ _ _
    have e1 : (Lib.byteCells (l ++ t)) = Lib.byteCells l ++ Lib.strCells ⟨t.toArray⟩ := by simp [Lib.byteCells, Lib.strCells]
    rw [e1, List.length_append, ← hsz]
    exact hown'
  · intro he
    obtain ⟨h1, h2⟩ := List.append_eq_nil_iff.1 he
    exact hnil'.2 ⟨hnil h1, by rw [h2]⟩
end Go.Proofs
