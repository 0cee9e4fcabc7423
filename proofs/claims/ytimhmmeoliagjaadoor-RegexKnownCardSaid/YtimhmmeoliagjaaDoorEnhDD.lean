import Derived.Test.YtimhmmeoliagjaaDoorEnhCC
set_option linter.unusedVariables false
set_option linter.unusedSimpArgs false
set_option linter.unusedSectionVars false
set_option maxRecDepth 100000
namespace Go.Eng
open Go

def Txt := List UInt8
instance : Rp Txt where
  sz := 1
  rep _ _ x cs := cs = [.string (bs x)]
  bulk x := List.length x + 1
  len h := by rw [h]; rfl
  keep h _ := h
  mono h _ := h
  one h := by rw [h]; rfl
  pos _ _ := Nat.succ_pos _
section
variable {R : Nat → Prop} {H : Heap}
end
def Stay (H : Heap) (L : Nat → Prop) : Nat → Prop := fun b => b < H.n ∧ ¬ L b
def Ds (v w : Value) : Prop := ∀ b, blkOf v = some b → blkOf w ≠ some b
theorem Ds.symm {v w : Value} (h : Ds v w) : Ds w v := fun b h1 h2 => h b h2 h1
theorem Acc.othr {H0 H H' : Heap} {sz n : Nat} {v w : Value} {cs : List Value} (h : Acc (all H0) H sz w n cs) (hd : Ds v w) (hk : Keep (fun b => b < H.n ∧ blkOf v ≠ some b) H H') : Acc (all H0) H' sz w n cs := by
  rcases h with ⟨rfl, h2, h3⟩ | ⟨b, rfl, h2, h3, h4, h5⟩
  · exact .inl ⟨rfl, h2, h3⟩
  · refine .inr ⟨b, rfl, h2, Nat.lt_of_lt_of_le h3 hk.1, ?_, h5⟩
    rw [hk.2 b ⟨h3, fun e => hd b e rfl⟩]; exact h4
theorem Acc.appQ {H0 H : Heap} {sz by_ n m : Nat} {v x : Value} {cs ds : List Value} (h : Acc (all H0) H sz v n cs) (hn : H0.n ≤ H.n) (hx : addend sz x H = some (m, ds)) (hd : ds.length = m * sz) (hb : (n + m) * by_ ≤ mostBytes) :
    ∃ v' H', Eng.app sz by_ v x H = some (v', H') ∧ Acc (all H0) H' sz v' (n + m) (cs ++ ds) ∧ Keep (all H0) H H' ∧ Keep (fun b => b < H.n ∧ blkOf v ≠ some b) H H' ∧ (∀ b, blkOf v' = some b → blkOf v = some b ∨ H.n ≤ b) ∧
      (∀ {sz2 n2 : Nat} {w : Value} {es : List Value}, Acc (all H0) H sz2 w n2 es → Ds v w → Acc (all H0) H' sz2 w n2 es ∧ Ds v' w) := by
  have hQ : ∀ b, all H0 b → (b < H.n ∧ blkOf v ≠ some b) := fun b hb => ⟨Nat.lt_of_lt_of_le hb hn, fun e => (h.at e).1 hb⟩
  have h' : Acc (fun b => b < H.n ∧ blkOf v ≠ some b) H sz v n cs := h.weak fun b hb hq => hq.2 hb
  obtain ⟨v', H', g1, g2, g3⟩ := h'.app (by_ := by_) (fun b hb => hb.1) hx hd hb
  refine ⟨v', H', g1, g2.low hQ, g3.mono hQ, g3, fun b e => ?_, fun {sz2 n2 w es} hw hD => ⟨hw.othr hD g3, fun b e1 e2 => ?_⟩⟩
  · have hnot := (g2.at e).1
    by_cases h1 : blkOf v = some b
    · exact .inl h1
    · right
      rcases Nat.lt_or_ge b H.n with h2 | h2
      · exact absurd ⟨h2, h1⟩ hnot
      · exact h2
  · exact (g2.at e1).1 ⟨(hw.at e2).2, fun e3 => hD b e3 e2⟩
def AccR {α : Type} [Rp α] (H0 H : Heap) (L : Nat → Prop) (v : Value) (xs : List α) : Prop := ∃ cs, Acc (all H0) H (Rp.sz α) v xs.length cs ∧ RpL (Stay H L) H xs cs
section
variable {α : Type} [Rp α] {H0 H H' : Heap} {L L' : Nat → Prop} {v : Value} {xs : List α}
theorem AccR.nil : AccR H0 H L nilS ([] : List α) := ⟨[], Acc.nil, .nil⟩
theorem AccR.move (h : AccR H0 H L v xs) (hk : Keep (Stay H L) H H') (hv : ∀ b, blkOf v = some b → H'.get b = H.get b) (hL : ∀ b, Stay H L b → Stay H' L' b) : AccR H0 H' L' v xs := by
  obtain ⟨cs, h1, h2⟩ := h
  refine ⟨cs, ?_, (h2.keep hk).mono hL⟩
  rcases h1 with h | ⟨b, rfl, g2, g3, g4, g5⟩
  · exact .inl h
  · exact .inr ⟨b, rfl, g2, Nat.lt_of_lt_of_le g3 hk.1, by rw [hv b rfl]; exact g4, g5⟩
theorem AccR.add {by_ : Nat} {x : α} {c : List Value} (h : AccR H0 H L v xs) (hn : H0.n ≤ H.n) (hx : Rp.rep (Stay H L) H x c) (hb : (xs.length + 1) * by_ ≤ mostBytes) (hL : ∀ b, blkOf v = some b → L b) :
    ∃ v' H', Eng.app (Rp.sz α) by_ v (.slice (some ⟨H.n, 0, none⟩) 1 1) (H.push ⟨c, Rp.sz α, true⟩) = some (v', H') ∧ AccR H0 H' (fun b => L b ∨ blkOf v' = some b) v' (xs ++ [x]) ∧
      Keep (fun b => b < H.n ∧ blkOf v ≠ some b) H H' ∧ (∀ b, blkOf v' = some b → blkOf v = some b ∨ H.n ≤ b) := by
  obtain ⟨cs, h1, h2⟩ := h
  have hp : Keep (all H) H (H.push ⟨c, Rp.sz α, true⟩) := push_keep
  have hc : c.length = Rp.sz α := Rp.len hx
  obtain ⟨v', H', g1, g2, g3, g4, g5, g6⟩ := (h1.keep hp).appQ (by_ := by_) (Nat.le_trans hn hp.1) (addend_push (n := 1) (by rw [hc, Nat.one_mul])) (by rw [hc, Nat.one_mul]) hb
  have K : Keep (fun b => b < H.n ∧ blkOf v ≠ some b) H H' := (hp.mono fun b hb => hb.1).trans (g4.mono fun b hb => ⟨Nat.lt_of_lt_of_le hb.1 hp.1, hb.2⟩)
  have hfz : ∀ b, Stay H L b → b < H.n ∧ blkOf v ≠ some b := fun b hb => ⟨hb.1, fun e => hb.2 (hL b e)⟩
  have hnew : ∀ b, blkOf v' = some b → blkOf v = some b ∨ H.n ≤ b := fun b e => by
    rcases g5 b e with h | h
    · exact .inl h
    · right; exact Nat.le_trans hp.1 h
  refine ⟨v', H', g1, ⟨cs ++ c, by simpa using g2, ?_⟩, K, hnew⟩
  have key : ∀ b, Stay H L b → Stay H' (fun b => L b ∨ blkOf v' = some b) b := fun b hb => ⟨Nat.lt_of_lt_of_le hb.1 K.1, fun h => by
    rcases h with h | h
    · exact hb.2 h
    · rcases hnew b h with h | h
      · exact hb.2 (hL b h)
      · have := hb.1; omega⟩
  exact ((h2.append (RpL.single hx)).keep (K.mono hfz)).mono key
end
abbrev But (H : Heap) (p : Nat) : Nat → Prop := fun q => q < H.n ∧ q ≠ p
theorem newA {H : Heap} {cs : List Value} (h : cs.all oneC = true) : newV (Value.cells (.agg cs.toArray)).toList H = some (ptr H.n 0, H.push ⟨cs, 1, true⟩) := newV_box h
section
variable {H : Heap} {p : Nat}
theorem upd_but {x : Option Blk} : Keep (But H p) H (H.upd p x) := Keep.upd fun h => h.2 rfl
theorem all_but (H : Heap) (p : Nat) : ∀ q, But H p q → all H q := fun q h => h.1
theorem but_up {H' : Heap} (hk : H.n ≤ H'.n) : ∀ q, But H p q → But H' p q := fun q h => ⟨Nat.lt_of_lt_of_le h.1 hk, h.2⟩
end
theorem k_eq {a k : Nat} : ((a : Int) != (k : Int)) = !decide (a = k) := by
  rw [bne]
  congr 1
  rw [Bool.eq_iff_iff]
  simp only [beq_iff_eq, decide_eq_true_eq]
  omega
theorem k_eq' {a k : Nat} : ((a : Int) == (k : Int)) = decide (a = k) := by
  rw [Bool.eq_iff_iff]
  simp only [beq_iff_eq, decide_eq_true_eq]
  omega
theorem Acc.box {H0 H H' : Heap} {sz n q : Nat} {w : Value} {cs : List Value} (h : Acc (all H0) H sz w n cs) (hq : blkOf w ≠ some q) (hk : Keep (But H q) H H') : Acc (all H0) H' sz w n cs := by
  refine Acc.othr (v := ptr q 0) h (fun x e1 e2 => ?_) (hk.mono fun x hx => ⟨hx.1, fun e => hx.2 (by rw [e]; rfl)⟩)
  have : x = q := by simpa [blkOf] using e1.symm
  subst this
  exact hq e2
theorem upd_butQ {H : Heap} {q : Nat} {x : Option Blk} : Keep (But H q) H (H.upd q x) := Keep.upd fun h => h.2 rfl
theorem st2 {H : Heap} {q : Nat} {x y u v : Value} (h : H.get q = some ⟨[u, v], 1, true⟩) (hx : Eng.oneC x = true) (hy : Eng.oneC y = true) : stV 2 (ptr q 0) (.agg #[x, y]) H = some (undef, H.upd q (some ⟨[x, y], 1, true⟩)) := by
  have e : splice [u, v] 0 [x, y] = [x, y] := by simp [splice]
  simp only [stV, h, Value.cells, e]
  rw [if_pos ⟨rfl, by simp [hx, hy], by simp, Blk.w_mk⟩]
def Nst (H0 H : Heap) (X : Nat → Prop) (v : Value) : Nat → Prop := fun q => H0.n ≤ q ∧ q < H.n ∧ ¬ X q ∧ blkOf v ≠ some q
def AccN {α : Type} [Rp α] (H0 H : Heap) (X : Nat → Prop) (v : Value) (xs : List α) : Prop := ∃ cs, Acc (all H0) H (Rp.sz α) v xs.length cs ∧ RpL (Nst H0 H X v) H xs cs
section
variable {α : Type} [Rp α] {H0 H H' : Heap} {X : Nat → Prop} {v : Value} {xs : List α}
theorem AccN.nil : AccN H0 H X nilS ([] : List α) := ⟨[], Acc.nil, .nil⟩
theorem AccN.keep (h : AccN H0 H X v xs) (hv : ∀ q, blkOf v = some q → ¬ X q) (hk : Keep (fun q => H0.n ≤ q ∧ q < H.n ∧ ¬ X q) H H') : AccN H0 H' X v xs := by
  obtain ⟨cs, h1, h2⟩ := h
  have hm : ∀ q, Nst H0 H X v q → Nst H0 H' X v q := fun q hq => ⟨hq.1, Nat.lt_of_lt_of_le hq.2.1 hk.1, hq.2.2⟩
  refine ⟨cs, ?_, (h2.keep (hk.mono fun q hq => ⟨hq.1, hq.2.1, hq.2.2.1⟩)).mono hm⟩
  rcases h1 with h | ⟨q, rfl, g2, g3, g4, g5⟩
  · exact .inl h
  · exact .inr ⟨q, rfl, g2, Nat.lt_of_lt_of_le g3 hk.1, by rw [hk.2 q ⟨Nat.le_of_not_lt g2, g3, hv q rfl⟩]; exact g4, g5⟩
theorem AccN.add {by_ : Nat} {x : α} {c : List Value} (h : AccN H0 H X v xs) (hn : H0.n ≤ H.n) (hx : ∀ {H2 : Heap} {R2 : Nat → Prop}, (∀ q, Nst H0 H X v q → R2 q) → Keep (Nst H0 H X v) H H2 → Rp.rep R2 H2 x c) (hc : c.length = Rp.sz α) (hb : (xs.length + 1) * by_ ≤ mostBytes) :
    ∃ v' H', Eng.app (Rp.sz α) by_ v (.slice (some ⟨H.n, 0, none⟩) 1 1) (H.push ⟨c, Rp.sz α, true⟩) = some (v', H') ∧ AccN H0 H' X v' (xs ++ [x]) ∧ Keep (fun q => q < H.n ∧ blkOf v ≠ some q) H H' ∧ (∀ q, blkOf v' = some q → blkOf v = some q ∨ H.n ≤ q) := by
  obtain ⟨cs, h1, h2⟩ := h
  have hp : Keep (all H) H (H.push ⟨c, Rp.sz α, true⟩) := push_keep
  obtain ⟨v', H', g1, g2, g3, g4, g5, g6⟩ := (h1.keep hp).appQ (by_ := by_) (Nat.le_trans hn hp.1) (addend_push (n := 1) (by rw [hc, Nat.one_mul])) (by rw [hc, Nat.one_mul]) hb
  have K : Keep (fun q => q < H.n ∧ blkOf v ≠ some q) H H' := (hp.mono fun q hq => hq.1).trans (g4.mono fun q hq => ⟨Nat.lt_of_lt_of_le hq.1 hp.1, hq.2⟩)
  have hnew : ∀ q, blkOf v' = some q → blkOf v = some q ∨ H.n ≤ q := fun q e => by
    rcases g5 q e with h | h
    · exact .inl h
    · right; exact Nat.le_trans hp.1 h
  have hm : ∀ q, Nst H0 H X v q → Nst H0 H' X v' q := fun q hq => ⟨hq.1, Nat.lt_of_lt_of_le hq.2.1 K.1, hq.2.2.1, fun e => by
    rcases hnew q e with h | h
    · exact hq.2.2.2 h
    · have := hq.2.1; omega⟩
  have hk2 : Keep (Nst H0 H X v) H H' := K.mono fun q hq => ⟨hq.2.1, hq.2.2.2⟩
  exact ⟨v', H', g1, ⟨cs ++ c, by simpa using g2, ((h2.keep hk2).mono hm).append (RpL.single (hx hm hk2))⟩, K, hnew⟩
end
theorem AccN.oneC {α : Type} [Rp α] {H0 H : Heap} {X : Nat → Prop} {v : Value} {xs : List α} (h : AccN H0 H X v xs) : Eng.oneC v = true ∧ v.cells = #[v] := by
  obtain ⟨cs, h1, _⟩ := h
  exact h1.oneC
section
variable {α : Type} [Rp α] {H0 H H' : Heap} {L L' : Nat → Prop} {v : Value} {xs : List α}
theorem AccR.at (h : AccR H0 H L v xs) {x : Nat} (e : blkOf v = some x) : H0.n ≤ x ∧ x < H.n := by
  obtain ⟨cs, h1, _⟩ := h
  have := h1.at e
  exact ⟨Nat.le_of_not_lt this.1, this.2⟩
theorem AccR.oneC (h : AccR H0 H L v xs) : Eng.oneC v = true ∧ v.cells = #[v] := by
  obtain ⟨cs, h1, _⟩ := h
  exact h1.oneC
end
theorem AccN.at {α : Type} [Rp α] {H0 H : Heap} {X : Nat → Prop} {v : Value} {xs : List α} (h : AccN H0 H X v xs) {z : Nat} (e : blkOf v = some z) : H0.n ≤ z ∧ z < H.n := by
  obtain ⟨cs, h1, _⟩ := h
  have := h1.at e
  exact ⟨Nat.le_of_not_lt this.1, this.2⟩
section
variable {H0 : Heap}
end
section
variable {H0 : Heap}
end
theorem mark_push {H : Heap} {n : Nat} {cs : List Value} (hn : n ≠ 0) : markV (.slice (some ⟨H.n, 0, none⟩) n n) (H.push ⟨cs, 1, true⟩) = some (.slice (some ⟨H.n, 0, none⟩) n n, H.push ⟨cs, 1, true⟩) := by
  simp [markV, push_self, hn, Blk.w_mk]
theorem resM1 {a : Value} : resM [some a] = some [a] := nr _
theorem one1 {a : Value} : one [a] = a := nr _
end Go.Eng
