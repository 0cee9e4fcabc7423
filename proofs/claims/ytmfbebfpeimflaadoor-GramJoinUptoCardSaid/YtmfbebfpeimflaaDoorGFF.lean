import Derived.Test.YtmfbebfpeimflaaDoorGCC
/- A file is copied; two are joined. -/
set_option linter.unusedVariables false
set_option linter.unusedSimpArgs false
set_option linter.unusedSectionVars false
set_option maxRecDepth 100000
namespace Go.Eng
open Go Go.Proofs

/-- Many more. -/
theorem AccR.addM {α : Type} [Rp α] {H0 H : Heap} {L : Nat → Prop} {v x : Value} {xs ys : List α} {ds : List Value} {by_ : Nat} (h : AccR H0 H L v xs) (hn : H0.n ≤ H.n) (hx : addend (Rp.sz α) x H = some (ys.length, ds)) (hy : RpL (Stay H L) H ys ds) (hb : (xs.length + ys.length) * by_ ≤ mostBytes) (hL : ∀ b, blkOf v = some b → L b) :
    ∃ v' H', Eng.app (Rp.sz α) by_ v x H = some (v', H') ∧ AccR H0 H' (fun b => L b ∨ blkOf v' = some b) v' (xs ++ ys) ∧ Keep (fun b => b < H.n ∧ blkOf v ≠ some b) H H' ∧ (∀ b, blkOf v' = some b → blkOf v = some b ∨ H.n ≤ b) := by
  obtain ⟨cs, h1, h2⟩ := h
  obtain ⟨v', H', g1, g2, g3, g4, g5, g6⟩ := h1.appQ (by_ := by_) hn hx hy.len hb
  have hfz : ∀ b, Stay H L b → b < H.n ∧ blkOf v ≠ some b := fun b hb => ⟨hb.1, fun e => hb.2 (hL b e)⟩
  refine ⟨v', H', g1, ⟨cs ++ ds, by simpa using g2, ?_⟩, g4, g5⟩
  have key : ∀ b, Stay H L b → Stay H' (fun b => L b ∨ blkOf v' = some b) b := fun b hb => ⟨Nat.lt_of_lt_of_le hb.1 g4.1, fun h => by
    rcases h with h | h
    · exact hb.2 h
    · rcases g5 b h with h | h
      · exact hb.2 (hL b h)
      · have := hb.1; omega⟩
  exact ((h2.append hy).keep (g4.mono hfz)).mono key
section
variable {H0 H H' : Heap} {p q : Nat} {a b c d : Value} {f : Fl}
/-- What is not written. -/
def Off (H0 H : Heap) (p q : Nat) (a b c d : Value) : Nat → Prop := fun x => x < H.n ∧ (x < H0.n ∨ x = p ∨ ¬ Lf H0.n p q a b c d x)
theorem Four.appI (h : Four H0 H p q a b c d f) {ys : List (List UInt8)} {x : Value} {dx : List Value} (hx : addend 1 x H = some (ys.length, dx)) (hy : RpL (α := Txt) (Stay H (Lf H0.n p q a b c d)) H ys dx) (hl : f.I.length + ys.length < 1000000000000) :
    ∃ a' H', Eng.app 1 16 a x H = some (a', H') ∧ stV 1 (ptr q 0) a' H' = some (undef, H'.upd q (some ⟨[a', .string (bs f.S), b, c, d], 1, true⟩)) ∧
      Four H0 (H'.upd q (some ⟨[a', .string (bs f.S), b, c, d], 1, true⟩)) p q a' b c d { f with I := f.I ++ ys } ∧ Keep (Off H0 H p q a b c d) H (H'.upd q (some ⟨[a', .string (bs f.S), b, c, d], 1, true⟩)) ∧ (∀ x, blkOf a' = some x → blkOf a = some x ∨ H.n ≤ x) := by
  have hm : mostBytes = 140737488355328 := rfl
  obtain ⟨v', H', g1, g2, g3, g4⟩ := AccR.addM (by_ := 16) h.ha h.hn hx hy (by show (f.I.length + ys.length) * 16 ≤ mostBytes; omega) (fun x e => by unfold Lf; simp [e])
  have nq : ∀ x, blkOf v' = some x → x ≠ p ∧ x ≠ q := fun x e => by
    rcases g4 x e with h1 | h1
    · exact h.na x h1
    · exact ⟨by have := h.pn; omega, by have := h.qn; omega⟩
  have gq : H'.get q = some ⟨[a, .string (bs f.S), b, c, d], 1, true⟩ := by
    rw [g3.2 q ⟨h.qn, fun e => (h.na q e).2 rfl⟩]; exact h.g
  have hL' : ∀ x, Lf H0.n p q v' b c d x → Lf H0.n p q a b c d x ∨ blkOf v' = some x := fun x hx => by
    unfold Lf at hx ⊢
    rcases hx with h1 | h1 | h1 | h1 | h1 | h1 | h1 <;> simp [h1]
  have hL : ∀ x, blkOf a = some x → Lf H0.n p q a b c d x := fun x e => by unfold Lf; simp [e]
  have hlq : Lf H0.n p q a b c d q := .inr (.inr (.inl rfl))
  have nds : ∀ w : Value, Ds a w → (∀ x, blkOf w = some x → x < H.n) → Ds v' w := fun w hd hw x e1 e2 => by
    rcases g4 x e1 with h1 | h1
    · exact hd x h1 e2
    · have := hw x e2; omega
  refine ⟨v', H', g1, stV1_box gq (by simp) g2.oneC.2 g2.oneC.1, { h with
    g := upd_self
    qn := Nat.lt_of_lt_of_le h.qn g3.1
    pn := Nat.lt_of_lt_of_le h.pn g3.1
    ha := AccR.self g2 hlq (fun x e => (nq x e).2) hL'
    hb := h.hb.other hL g3 h.ab g4 hlq (fun x e => (h.nb x e).2) hL'
    hc := h.hc.other hL g3 h.ac g4 hlq (fun x e => (h.nc x e).2) hL'
    hd := h.hd.other hL g3 h.ad g4 hlq (fun x e => (h.nd x e).2) hL'
    ab := nds b h.ab (fun x e => (h.hb.at e).2)
    ac := nds c h.ac (fun x e => (h.hc.at e).2)
    ad := nds d h.ad (fun x e => (h.hd.at e).2)
    na := nq }, ⟨g3.1, fun x hx => ?_⟩, g4⟩
  obtain ⟨hx0, hx⟩ := hx
  rcases hx with hx | hx | hx
  · rw [upd_ne (by have := h.q0; omega)]
    exact g3.2 x ⟨Nat.lt_of_lt_of_le hx h.hn, fun e => by have := (h.ha.at e).1; omega⟩
  · rw [hx, upd_ne h.pq]
    exact g3.2 p ⟨h.pn, fun e => (h.na p e).1 rfl⟩
  · rw [upd_ne (fun e => hx (by rw [e]; exact hlq))]
    exact g3.2 x ⟨hx0, fun e => hx (hL x e)⟩
theorem Four.appT (h : Four H0 H p q a b c d f) {ys : List (Tm)} {x : Value} {dx : List Value} (hx : addend 3 x H = some (ys.length, dx)) (hy : RpL (α := Tm) (Stay H (Lf H0.n p q a b c d)) H ys dx) (hl : f.T.length + ys.length < 1000000000000) :
    ∃ b' H', Eng.app 3 40 b x H = some (b', H') ∧ stV 1 (ptr q 2) b' H' = some (undef, H'.upd q (some ⟨[a, .string (bs f.S), b', c, d], 1, true⟩)) ∧
      Four H0 (H'.upd q (some ⟨[a, .string (bs f.S), b', c, d], 1, true⟩)) p q a b' c d { f with T := f.T ++ ys } ∧ Keep (Off H0 H p q a b c d) H (H'.upd q (some ⟨[a, .string (bs f.S), b', c, d], 1, true⟩)) ∧ (∀ x, blkOf b' = some x → blkOf b = some x ∨ H.n ≤ x) := by
  have hm : mostBytes = 140737488355328 := rfl
  obtain ⟨v', H', g1, g2, g3, g4⟩ := AccR.addM (by_ := 40) h.hb h.hn hx hy (by show (f.T.length + ys.length) * 40 ≤ mostBytes; omega) (fun x e => by unfold Lf; simp [e])
  have nq : ∀ x, blkOf v' = some x → x ≠ p ∧ x ≠ q := fun x e => by
    rcases g4 x e with h1 | h1
    · exact h.nb x h1
    · exact ⟨by have := h.pn; omega, by have := h.qn; omega⟩
  have gq : H'.get q = some ⟨[a, .string (bs f.S), b, c, d], 1, true⟩ := by
    rw [g3.2 q ⟨h.qn, fun e => (h.nb q e).2 rfl⟩]; exact h.g
  have hL' : ∀ x, Lf H0.n p q a v' c d x → Lf H0.n p q a b c d x ∨ blkOf v' = some x := fun x hx => by
    unfold Lf at hx ⊢
    rcases hx with h1 | h1 | h1 | h1 | h1 | h1 | h1 <;> simp [h1]
  have hL : ∀ x, blkOf b = some x → Lf H0.n p q a b c d x := fun x e => by unfold Lf; simp [e]
  have hlq : Lf H0.n p q a b c d q := .inr (.inr (.inl rfl))
  have nds : ∀ w : Value, Ds b w → (∀ x, blkOf w = some x → x < H.n) → Ds v' w := fun w hd hw x e1 e2 => by
    rcases g4 x e1 with h1 | h1
    · exact hd x h1 e2
    · have := hw x e2; omega
  refine ⟨v', H', g1, stV1_box gq (by simp) g2.oneC.2 g2.oneC.1, { h with
    g := upd_self
    qn := Nat.lt_of_lt_of_le h.qn g3.1
    pn := Nat.lt_of_lt_of_le h.pn g3.1
    ha := h.ha.other hL g3 h.ab.symm g4 hlq (fun x e => (h.na x e).2) hL'
    hb := AccR.self g2 hlq (fun x e => (nq x e).2) hL'
    hc := h.hc.other hL g3 h.bc g4 hlq (fun x e => (h.nc x e).2) hL'
    hd := h.hd.other hL g3 h.bd g4 hlq (fun x e => (h.nd x e).2) hL'
    ab := (nds a h.ab.symm (fun x e => (h.ha.at e).2)).symm
    bc := nds c h.bc (fun x e => (h.hc.at e).2)
    bd := nds d h.bd (fun x e => (h.hd.at e).2)
    nb := nq }, ⟨g3.1, fun x hx => ?_⟩, g4⟩
  obtain ⟨hx0, hx⟩ := hx
  rcases hx with hx | hx | hx
  · rw [upd_ne (by have := h.q0; omega)]
    exact g3.2 x ⟨Nat.lt_of_lt_of_le hx h.hn, fun e => by have := (h.hb.at e).1; omega⟩
  · rw [hx, upd_ne h.pq]
    exact g3.2 p ⟨h.pn, fun e => (h.nb p e).1 rfl⟩
  · rw [upd_ne (fun e => hx (by rw [e]; exact hlq))]
    exact g3.2 x ⟨hx0, fun e => hx (hL x e)⟩
theorem Four.appP (h : Four H0 H p q a b c d f) {ys : List (Pr)} {x : Value} {dx : List Value} (hx : addend 2 x H = some (ys.length, dx)) (hy : RpL (α := Pr) (Stay H (Lf H0.n p q a b c d)) H ys dx) (hl : f.P.length + ys.length < 1000000000000) :
    ∃ c' H', Eng.app 2 32 c x H = some (c', H') ∧ stV 1 (ptr q 3) c' H' = some (undef, H'.upd q (some ⟨[a, .string (bs f.S), b, c', d], 1, true⟩)) ∧
      Four H0 (H'.upd q (some ⟨[a, .string (bs f.S), b, c', d], 1, true⟩)) p q a b c' d { f with P := f.P ++ ys } ∧ Keep (Off H0 H p q a b c d) H (H'.upd q (some ⟨[a, .string (bs f.S), b, c', d], 1, true⟩)) ∧ (∀ x, blkOf c' = some x → blkOf c = some x ∨ H.n ≤ x) := by
  have hm : mostBytes = 140737488355328 := rfl
  obtain ⟨v', H', g1, g2, g3, g4⟩ := AccR.addM (by_ := 32) h.hc h.hn hx hy (by show (f.P.length + ys.length) * 32 ≤ mostBytes; omega) (fun x e => by unfold Lf; simp [e])
  have nq : ∀ x, blkOf v' = some x → x ≠ p ∧ x ≠ q := fun x e => by
    rcases g4 x e with h1 | h1
    · exact h.nc x h1
    · exact ⟨by have := h.pn; omega, by have := h.qn; omega⟩
  have gq : H'.get q = some ⟨[a, .string (bs f.S), b, c, d], 1, true⟩ := by
    rw [g3.2 q ⟨h.qn, fun e => (h.nc q e).2 rfl⟩]; exact h.g
  have hL' : ∀ x, Lf H0.n p q a b v' d x → Lf H0.n p q a b c d x ∨ blkOf v' = some x := fun x hx => by
    unfold Lf at hx ⊢
    rcases hx with h1 | h1 | h1 | h1 | h1 | h1 | h1 <;> simp [h1]
  have hL : ∀ x, blkOf c = some x → Lf H0.n p q a b c d x := fun x e => by unfold Lf; simp [e]
  have hlq : Lf H0.n p q a b c d q := .inr (.inr (.inl rfl))
  have nds : ∀ w : Value, Ds c w → (∀ x, blkOf w = some x → x < H.n) → Ds v' w := fun w hd hw x e1 e2 => by
    rcases g4 x e1 with h1 | h1
    · exact hd x h1 e2
    · have := hw x e2; omega
  refine ⟨v', H', g1, stV1_box gq (by simp) g2.oneC.2 g2.oneC.1, { h with
    g := upd_self
    qn := Nat.lt_of_lt_of_le h.qn g3.1
    pn := Nat.lt_of_lt_of_le h.pn g3.1
    ha := h.ha.other hL g3 h.ac.symm g4 hlq (fun x e => (h.na x e).2) hL'
    hb := h.hb.other hL g3 h.bc.symm g4 hlq (fun x e => (h.nb x e).2) hL'
    hc := AccR.self g2 hlq (fun x e => (nq x e).2) hL'
    hd := h.hd.other hL g3 h.cd g4 hlq (fun x e => (h.nd x e).2) hL'
    ac := (nds a h.ac.symm (fun x e => (h.ha.at e).2)).symm
    bc := (nds b h.bc.symm (fun x e => (h.hb.at e).2)).symm
    cd := nds d h.cd (fun x e => (h.hd.at e).2)
    nc := nq }, ⟨g3.1, fun x hx => ?_⟩, g4⟩
  obtain ⟨hx0, hx⟩ := hx
  rcases hx with hx | hx | hx
  · rw [upd_ne (by have := h.q0; omega)]
    exact g3.2 x ⟨Nat.lt_of_lt_of_le hx h.hn, fun e => by have := (h.hc.at e).1; omega⟩
  · rw [hx, upd_ne h.pq]
    exact g3.2 p ⟨h.pn, fun e => (h.nc p e).1 rfl⟩
  · rw [upd_ne (fun e => hx (by rw [e]; exact hlq))]
    exact g3.2 x ⟨hx0, fun e => hx (hL x e)⟩
theorem Four.appR (h : Four H0 H p q a b c d f) {ys : List (Rl)} {x : Value} {dx : List Value} (hx : addend 2 x H = some (ys.length, dx)) (hy : RpL (α := Rl) (Stay H (Lf H0.n p q a b c d)) H ys dx) (hl : f.R.length + ys.length < 1000000000000) :
    ∃ d' H', Eng.app 2 40 d x H = some (d', H') ∧ stV 1 (ptr q 4) d' H' = some (undef, H'.upd q (some ⟨[a, .string (bs f.S), b, c, d'], 1, true⟩)) ∧
      Four H0 (H'.upd q (some ⟨[a, .string (bs f.S), b, c, d'], 1, true⟩)) p q a b c d' { f with R := f.R ++ ys } ∧ Keep (Off H0 H p q a b c d) H (H'.upd q (some ⟨[a, .string (bs f.S), b, c, d'], 1, true⟩)) ∧ (∀ x, blkOf d' = some x → blkOf d = some x ∨ H.n ≤ x) := by
  have hm : mostBytes = 140737488355328 := rfl
  obtain ⟨v', H', g1, g2, g3, g4⟩ := AccR.addM (by_ := 40) h.hd h.hn hx hy (by show (f.R.length + ys.length) * 40 ≤ mostBytes; omega) (fun x e => by unfold Lf; simp [e])
  have nq : ∀ x, blkOf v' = some x → x ≠ p ∧ x ≠ q := fun x e => by
    rcases g4 x e with h1 | h1
    · exact h.nd x h1
    · exact ⟨by have := h.pn; omega, by have := h.qn; omega⟩
  have gq : H'.get q = some ⟨[a, .string (bs f.S), b, c, d], 1, true⟩ := by
    rw [g3.2 q ⟨h.qn, fun e => (h.nd q e).2 rfl⟩]; exact h.g
  have hL' : ∀ x, Lf H0.n p q a b c v' x → Lf H0.n p q a b c d x ∨ blkOf v' = some x := fun x hx => by
    unfold Lf at hx ⊢
    rcases hx with h1 | h1 | h1 | h1 | h1 | h1 | h1 <;> simp [h1]
  have hL : ∀ x, blkOf d = some x → Lf H0.n p q a b c d x := fun x e => by unfold Lf; simp [e]
  have hlq : Lf H0.n p q a b c d q := .inr (.inr (.inl rfl))
  have nds : ∀ w : Value, Ds d w → (∀ x, blkOf w = some x → x < H.n) → Ds v' w := fun w hd hw x e1 e2 => by
    rcases g4 x e1 with h1 | h1
    · exact hd x h1 e2
    · have := hw x e2; omega
  refine ⟨v', H', g1, stV1_box gq (by simp) g2.oneC.2 g2.oneC.1, { h with
    g := upd_self
    qn := Nat.lt_of_lt_of_le h.qn g3.1
    pn := Nat.lt_of_lt_of_le h.pn g3.1
    ha := h.ha.other hL g3 h.ad.symm g4 hlq (fun x e => (h.na x e).2) hL'
    hb := h.hb.other hL g3 h.bd.symm g4 hlq (fun x e => (h.nb x e).2) hL'
    hc := h.hc.other hL g3 h.cd.symm g4 hlq (fun x e => (h.nc x e).2) hL'
    hd := AccR.self g2 hlq (fun x e => (nq x e).2) hL'
    ad := (nds a h.ad.symm (fun x e => (h.ha.at e).2)).symm
    bd := (nds b h.bd.symm (fun x e => (h.hb.at e).2)).symm
    cd := (nds c h.cd.symm (fun x e => (h.hc.at e).2)).symm
    nd := nq }, ⟨g3.1, fun x hx => ?_⟩, g4⟩
  obtain ⟨hx0, hx⟩ := hx
  rcases hx with hx | hx | hx
  · rw [upd_ne (by have := h.q0; omega)]
    exact g3.2 x ⟨Nat.lt_of_lt_of_le hx h.hn, fun e => by have := (h.hd.at e).1; omega⟩
  · rw [hx, upd_ne h.pq]
    exact g3.2 p ⟨h.pn, fun e => (h.nd p e).1 rfl⟩
  · rw [upd_ne (fun e => hx (by rw [e]; exact hlq))]
    exact g3.2 x ⟨hx0, fun e => hx (hL x e)⟩
end
theorem rpl_tm {R R' : Nat → Prop} {H H' : Heap} {xs : List Tm} {cs : List Value} (h : RpL R H xs cs) : RpL R' H' xs cs := by
  induction h with
  | nil => exact .nil
  | cons h t ih => exact .cons (rep_tm.2 (rep_tm.1 h)) ih
end Go.Eng

/- A file is copied. -/
set_option linter.unusedVariables false
set_option linter.unusedSimpArgs false
set_option linter.unusedSectionVars false
set_option maxRecDepth 100000
namespace Go.Eng
open Go Go.Proofs

theorem bldF1 {H : Heap} {s : List UInt8} : bld [.slice none 0 0, .string ⟨#[]⟩, .slice none 0 0, .slice none 0 0, .slice none 0 0] [(1, 1, .string (bs s))] H = some (.agg [nilS, .string (bs s), nilS, nilS, nilS].toArray, H) := by kernel_rfl
theorem bldA1 {H : Heap} {s : ByteArray} : bld [.slice none 0 0, .string ⟨#[]⟩] [(1, 1, .string s)] H = some (.agg #[.slice none 0 0, .string s], H) := by kernel_rfl
/-- A list of one's own, of texts, made at once. -/
theorem texts_new {R : Nat → Prop} {H : Heap} {v : Value} {l : List (List UInt8)} (hs : Sl R H 1 v l.length (STRL l)) (hb : l.length ≤ 1000000000000) :
    ∃ w H', Eng.app 1 16 nilS v H = some (w, H') ∧ Acc (all H) H' 1 w l.length (STRL l) ∧ Keep (all H) H H' := by
  have hm : mostBytes = 140737488355328 := rfl
  obtain ⟨w, H', g1, g2, g3⟩ := (Acc.nil (R := all H) (H := H) (sz := 1)).app (by_ := 16) (Rb.all H) hs.addend (by simp [STRL]) (by omega)
  rw [Nat.zero_add, List.nil_append] at g2
  exact ⟨w, H', g1, g2, g3⟩
/-- All that a file's lists are made of is small. -/
structure Fsm (f : Fl) : Prop where
  i : f.I.length ≤ 100000000
  t : f.T.length ≤ 100000000
  p : f.P.length ≤ 100000000
  r : f.R.length ≤ 100000000
  ps : ∀ x ∈ f.P, x.N.length ≤ 100000000
  rs : ∀ x ∈ f.R, x.A.length ≤ 100000000 ∧ ∀ a ∈ x.A, a.S.length ≤ 100000000
section
variable {H0 : Heap} {p q s0 : Nat} {f : Fl} {cs : List Value} (hp : p < s0) 
theorem Four.low {H0 H H' : Heap} {p q : Nat} {a b c d : Value} {f : Fl} (h : Four H0 H p q a b c d f) (hk : Keep (all H) H H') : Four H0 H' p q a b c d f := h.move (hk.mono (all_but H p))
theorem lf_lt {H0 H : Heap} {p q : Nat} {a b c d : Value} {f : Fl} (h4 : Four H0 H p q a b c d f) : ∀ x, Lf H0.n p q a b c d x → x < H.n := fun x hx => by
  rcases hx with hx | rfl | rfl | hx | hx | hx | hx
  · exact Nat.lt_of_lt_of_le hx h4.hn
  · exact h4.pn
  · exact h4.qn
  · exact (h4.ha.at hx).2
  · exact (h4.hb.at hx).2
  · exact (h4.hc.at hx).2
  · exact (h4.hd.at hx).2
end
theorem ld_keep {R : Nat → Prop} {H H' : Heap} {b o : Nat} {x : Value} (h : ldC (ptr b o) H = some (x, H)) (hb : R b) (hk : Keep R H H') : ldC (ptr b o) H' = some (x, H') := by
  simp only [ldC] at h ⊢
  rw [hk.2 b hb]
  cases hg : H.get b with
  | none => rw [hg] at h; cases h
  | some blk =>
    rw [hg] at h
    simp only at h ⊢
    cases hx : blk.cells[o]? with
    | none => rw [hx] at h; cases h
    | some y => rw [hx] at h; simpa using h
/-! ### lists of one's own, in no box -/
def Lo (n0 : Nat) (a b c d : Value) : Nat → Prop := fun x => x < n0 ∨ blkOf a = some x ∨ blkOf b = some x ∨ blkOf c = some x ∨ blkOf d = some x
structure Own4 (H0 H : Heap) (a b c d : Value) (f : Fl) : Prop where
  ha : AccR H0 H (Lo H0.n a b c d) a (show List Txt from f.I)
  hb : AccR H0 H (Lo H0.n a b c d) b f.T
  hc : AccR H0 H (Lo H0.n a b c d) c f.P
  hd : AccR H0 H (Lo H0.n a b c d) d f.R
  ab : Ds a b
  ac : Ds a c
  ad : Ds a d
  bc : Ds b c
  bd : Ds b d
  cd : Ds c d
theorem lo_lf {n0 p q : Nat} {a b c d : Value} {x : Nat} (h : Lo n0 a b c d x) : Lf n0 p q a b c d x := by
  unfold Lo at h; unfold Lf
  rcases h with h | h | h | h | h <;> simp [h]
theorem Four.own {H0 H : Heap} {p q : Nat} {a b c d : Value} {f : Fl} (h : Four H0 H p q a b c d f) (y : Option Blk) : Own4 H0 (H.upd p y) a b c d f :=
  have kk : Keep (Stay H (Lf H0.n p q a b c d)) H (H.upd p y) := ⟨Nat.le_refl _, fun x hx => upd_ne fun e => hx.2 (.inr (.inl e))⟩
  have kl : ∀ x, Stay H (Lf H0.n p q a b c d) x → Stay (H.upd p y) (Lo H0.n a b c d) x := fun x hx => ⟨hx.1, fun e => hx.2 (lo_lf e)⟩
  { h with
    ha := h.ha.move kk (fun x e => upd_ne (h.na x e).1) kl
    hb := h.hb.move kk (fun x e => upd_ne (h.nb x e).1) kl
    hc := h.hc.move kk (fun x e => upd_ne (h.nc x e).1) kl
    hd := h.hd.move kk (fun x e => upd_ne (h.nd x e).1) kl }
/-- What a copy answers. -/
def Cpd (H0 : Heap) (f : Fl) (v : Value) (H' : Heap) : Prop := ∃ a b c d, v = .agg [a, .string (bs f.S), b, c, d].toArray ∧ Keep (all H0) H0 H' ∧ Own4 H0 H' a b c d f
section
variable {H0 : Heap} {p q x1 : Nat} {f : Fl} {cs : List Value}
/-- The ways of a rule. -/
theorem copy_L2 {i : Nat} {x : Rl} {a b c d : Value} {Hs : Heap} {s : Nat} (h1 : H0.get x1 = some ⟨cs, 1, true⟩) (hx1 : x1 < H0.n) (hf : Rp.rep (all H0) H0 f cs) (hs : Fsm f) (hi : f.R[i]? = some x) (hKs : Keep (all H0) H0 Hs) (h4 : Four H0 Hs p q a b c d ⟨f.I, f.S, f.T, f.P, f.R.take i⟩)
    (gp : Hs.get p = some ⟨NOFILE, 1, true⟩)
    (next : ∀ (H : Heap) (a b c d : Value), Keep (all H0) H0 H → H.get p = some ⟨NOFILE, 1, true⟩ → Four H0 H p q a b c d ⟨f.I, f.S, f.T, f.P, f.R.take (i + 1)⟩ → ∃ v H', Ev (fun n m => f14_L1 real (AC n) n m (ptr x1 0) (ptr p 0) (ptr q 0) (.int .i64 ((i + 1 : Nat) : Int)) H) (v, H') ∧ Cpd H0 f v H') :
    ∀ (k j : Nat) (H : Heap) (v : Value), j + k = x.A.length → Keep (all Hs) Hs H → H.get s = some ⟨[.string (bs x.N), v], 1, true⟩ → Hs.n ≤ s → s < H.n → AccN Hs H (fun z => z = s) v (x.A.take j) → (∀ z, blkOf v = some z → z ≠ s) →
    ∃ w H', Ev3 (fun n m k => f14_L2 real (AC n) n (f14_L1 real (AC n) n m) k (ptr x1 0) (ptr p 0) (ptr q 0) (.int .i64 (i : Int)) (ptr s 0) (.int .i64 (j : Int)) H) (w, H') ∧ Cpd H0 f w H' := by
  have hm : mostBytes = 140737488355328 := rfl
  obtain ⟨vI, vT, vP, vR, rfl, i1, i2, i3, i4⟩ := rep_fl.1 hf
  have hilt := (List.getElem?_eq_some_iff.1 hi).1
  obtain ⟨sA, sS⟩ := hs.rs x (List.mem_of_getElem? hi)
  have sR := hs.r
  intro k
  induction k with
  | zero =>
    intro j H v hj hK gs s0 sn hA hv
    obtain rfl : j = x.A.length := by omega
    rw [List.take_length] at hA
    have K0 : Keep (all H0) H0 H := hKs.trans (hK.of_all ((Rb.all H0).mono hKs.1))
    have l4 : ldC (ptr x1 4) H = some (vR, H) := Box.ld (R := fun _ => True) ⟨trivial, 1, true, by rw [K0.2 x1 hx1]; exact h1⟩ rfl
    obtain ⟨b0, o0, c0, a1, _, a2, a3, _⟩ := (i4.keep K0).at hi
    obtain ⟨u, rfl, su⟩ := rep_rl.1 a2
    have a1 : iAddrS 2 vR (.int .i64 (i : Int)) = some (ptr b0 o0) := a1
    have l1 := a3 1 _ rfl
    have f4 := h4.low hK
    have ld : ldC (ptr q 4) H = some (d, H) := Box.ld (R := fun _ => True) ⟨trivial, _, _, f4.g⟩ rfl
    have l2 := ld2 gs
    have hlt := lf_lt h4
    have hrep : Rp.rep (Stay H (Lf H0.n p q a b c d)) H x [.string (bs x.N), v] := rep_rl.2 ⟨v, rfl, hA.sli fun z e1 e2 => ⟨e2, fun e => by have := hlt z e; omega⟩⟩
    have htl : (f.R.take i).length ≤ f.R.length := by simp; omega
    obtain ⟨d', H2, b1, b2, b3, b4⟩ := f4.addR hrep (by show (f.R.take i).length < 1000000000000; omega)
    have K2 : Keep (all H0) H0 (H2.upd q (some ⟨[a, .string (bs f.S), b, c, d'], 1, true⟩)) := K0.trans (b4.mono fun z hz => .inl hz)
    have et : f.R.take i ++ [x] = f.R.take (i + 1) := by rw [List.take_add_one, hi]; rfl
    have gp2 : (H2.upd q (some ⟨[a, .string (bs f.S), b, c, d'], 1, true⟩)).get p = some ⟨NOFILE, 1, true⟩ := by rw [b4.2 p (.inr rfl), hK.2 p h4.pn]; exact gp
    obtain ⟨w, H', q1, q2⟩ := next _ a b c d' K2 gp2 (by rw [← et]; exact b3)
    refine ⟨w, H', ?_, q2⟩
    obtain ⟨o1, o2⟩ := hA.oneC
    refine Ev3.step (fun n m k => f14_L2.eq_2 _ _ _ _ _ _ _ _ _ _ _ _) ?_
    have hup := idx_up (show i < 9223372036854775807 by omega)
    simp only [ruA, ruB, ruC, ruE, ruD, lenStr, Int.reduceBEq, Int.reduceBNe, l4, a1, l1, Sli.lenS su, idx_ge (Nat.le_refl x.A.length), ld, l2, bldR o1 o2, b1, b2, hup]
    exact Ev3.of q1
  | succ k ih =>
    intro j H v hj hK gs s0 sn hA hv
    have K0 : Keep (all H0) H0 H := hKs.trans (hK.of_all ((Rb.all H0).mono hKs.1))
    obtain ⟨y, y1, y2⟩ := drop_at (l := x.A) (i := j) (by omega)
    obtain ⟨b0, o0, c0, r1, rb0, d2, d3, _⟩ := i4.at hi
    obtain ⟨u, rfl, su⟩ := rep_rl.1 d2
    obtain ⟨b1, o1, c1, r4, rb1, d5, d6, _⟩ := su.at y1
    obtain ⟨w, rfl, sw⟩ := rep_al.1 d5
    have r1 : iAddrS 2 vR (.int .i64 (i : Int)) = some (ptr b0 o0) := r1
    have r4 : iAddrS 2 u (.int .i64 (j : Int)) = some (ptr b1 o1) := r4
    have r3 : lenS u = some (.int .i64 (x.A.length : Int)) := su.lenS
    have l4 : ∀ {H' : Heap}, Keep (all H0) H0 H' → ldC (ptr x1 4) H' = some (vR, H') := fun hk => Box.ld (R := fun _ => True) ⟨trivial, 1, true, by rw [hk.2 x1 hx1]; exact h1⟩ rfl
    have r2 : ∀ {H' : Heap}, Keep (all H0) H0 H' → ldC (ptr b0 (o0 + 1)) H' = some (u, H') := fun hk => ld_keep (d3 1 _ rfl) rb0 hk
    have r5 : ∀ {H' : Heap}, Keep (all H0) H0 H' → ldC (ptr b1 o1) H' = some (w, H') := fun hk => ld_keep (o := o1 + 0) (d6 0 _ rfl) rb1 hk
    have r6 : ∀ {H' : Heap}, Keep (all H0) H0 H' → ldC (ptr b1 (o1 + 1)) H' = some (.string (bs y.P), H') := fun hk => ld_keep (d6 1 _ rfl) rb1 hk
    -- the box of a way
    have kp : Keep (all H) H (H.push ⟨[nilS, .string (bs y.P)], 1, true⟩) := push_keep
    have n9 : newV [.slice none 0 0, .string ⟨#[]⟩] H = some (ptr H.n 0, H.push ⟨[nilS, .string ⟨#[]⟩], 1, true⟩) := newV_box rfl
    have st9 : stV 2 (ptr H.n 0) (.agg #[.slice none 0 0, .string (bs y.P)]) (H.push ⟨[nilS, .string ⟨#[]⟩], 1, true⟩) = some (undef, H.push ⟨[nilS, .string (bs y.P)], 1, true⟩) := stA_push (ds := [nilS, .string (bs y.P)]) rfl rfl rfl
    have g9 : (H.push ⟨[nilS, .string (bs y.P)], 1, true⟩).get H.n = some ⟨[nilS, .string (bs y.P)], 1, true⟩ := push_self
    have m9 : (H.push ⟨[nilS, .string (bs y.P)], 1, true⟩).n = H.n + 1 := push_n
    generalize hH9 : H.push ⟨[nilS, .string (bs y.P)], 1, true⟩ = H9 at *
    have K9 : Keep (all H0) H0 H9 := K0.trans (kp.of_all ((Rb.all H0).mono K0.1))
    have l9 : ldC (ptr H.n 0) H9 = some (nilS, H9) := Box.ld (R := fun _ => True) ⟨trivial, _, _, g9⟩ rfl
    obtain ⟨z, Ha, e1, e2, e3⟩ := texts_new (Sl.keep sw K9) (Nat.le_trans (sS y (List.mem_of_getElem? y1)) (by decide))
    have oz := e2.oneC
    have ga : Ha.get H.n = some ⟨[nilS, .string (bs y.P)], 1, true⟩ := by rw [e3.2 _ (by show H.n < H9.n; omega)]; exact g9
    have hz : ∀ q, blkOf z = some q → H9.n ≤ q ∧ q < Ha.n := fun q e => by
      have := e2.at e
      exact ⟨Nat.le_of_not_lt this.1, this.2⟩
    have sta : stV 1 (ptr H.n 0) z Ha = some (undef, Ha.upd H.n (some ⟨[z, .string (bs y.P)], 1, true⟩)) := stV1_box ga (by simp) oz.2 oz.1
    have ku : Keep (But Ha H.n) Ha (Ha.upd H.n (some ⟨[z, .string (bs y.P)], 1, true⟩)) := upd_butQ
    have na : H9.n ≤ Ha.n := e3.1
    have eb : Acc (all H9) (Ha.upd H.n (some ⟨[z, .string (bs y.P)], 1, true⟩)) 1 z y.S.length (STRL y.S) := e2.box (fun e => by have := hz _ e; omega) ku
    have gb : (Ha.upd H.n (some ⟨[z, .string (bs y.P)], 1, true⟩)).get H.n = some ⟨[z, .string (bs y.P)], 1, true⟩ := upd_self
    have kb : Keep (all H) H (Ha.upd H.n (some ⟨[z, .string (bs y.P)], 1, true⟩)) := kp.tr e3 |>.trans (ku.mono fun q hq => by have : q < H.n := hq; exact ⟨by omega, by omega⟩)
    generalize hHb : Ha.upd H.n (some ⟨[z, .string (bs y.P)], 1, true⟩) = Hb at *
    have lb := ld2 gb
    have gsb : Hb.get s = some ⟨[.string (bs x.N), v], 1, true⟩ := by rw [kb.2 s sn]; exact gs
    have ls : ldC (ptr s 1) Hb = some (v, Hb) := Box.ld (R := fun _ => True) ⟨trivial, _, _, gsb⟩ rfl
    have Ab : AccN Hs Hb (fun z => z = s) v (x.A.take j) := hA.keep (fun q e h => hv q e h) (kb.mono fun q hq => hq.2.1)
    have nb : H.n ≤ Hb.n := kb.1
    obtain ⟨v', Hc, c1', c2', c3', c4'⟩ := ways_app (H0 := Hs) (Hs := H) (a := y) hK.1 nb Ab (eb.low (R' := all H) fun q hq => by have : q < H.n := hq; show q < H9.n; omega) (fun q hq => by rw [hq]; exact sn) (fun q e => (hA.at e).2) (by simp; omega)
    have o' := c2'.oneC
    have vs : blkOf v ≠ some s := fun e => hv s e rfl
    have gsc : Hc.get s = some ⟨[.string (bs x.N), v], 1, true⟩ := by rw [c3'.2 s ⟨by omega, vs⟩]; exact gsb
    have stc : stV 1 (ptr s 1) v' Hc = some (undef, Hc.upd s (some ⟨[.string (bs x.N), v'], 1, true⟩)) := stV1_box gsc (by simp) o'.2 o'.1
    have hv' : ∀ q, blkOf v' = some q → q ≠ s := fun q e => by
      rcases c4' q e with h | h
      · exact hv q h
      · omega
    have kc : Keep (But Hc s) Hc (Hc.upd s (some ⟨[.string (bs x.N), v'], 1, true⟩)) := upd_butQ
    have Kd : Keep (all Hs) Hs (Hc.upd s (some ⟨[.string (bs x.N), v'], 1, true⟩)) := (hK.tr (kb.mono fun q hq => hq)).trans ((c3'.mono fun q hq => by
        have hq' : q < Hs.n := hq
        exact ⟨Nat.lt_of_lt_of_le hq' (Nat.le_trans hK.1 nb), fun e => by have := (hA.at e).1; omega⟩).trans (kc.mono fun q hq => by
        have hq' : q < Hs.n := hq
        exact ⟨Nat.lt_of_lt_of_le hq' (Nat.le_trans hK.1 (Nat.le_trans nb c3'.1)), by omega⟩))
    have et : x.A.take j ++ [y] = x.A.take (j + 1) := by rw [List.take_add_one, y1]; rfl
    obtain ⟨w', H', q1, q2⟩ := ih (j + 1) _ v' (by omega) Kd upd_self s0 (Nat.lt_of_lt_of_le sn (Nat.le_trans nb c3'.1)) (by rw [← et]; exact c2'.keep (fun q e h => hv' q e h) (kc.mono fun q hq => ⟨hq.2.1, hq.2.2⟩)) hv'
    refine ⟨w', H', ?_, q2⟩
    refine Ev3.step (fun n m k => f14_L2.eq_2 _ _ _ _ _ _ _ _ _ _ _ _) ?_
    have hup := idx_up (show j < 9223372036854775807 by omega)
    simp only [ruA, ruB, ruC, ruE, ruD, lenStr, Int.reduceBEq, Int.reduceBNe, Nat.add_zero, l4 K0, r1, r2 K0, r3, idx_lt (show j < x.A.length by omega), r4, r6 K0, bldA1, n9, st9, hH9, l9, l4 K9, r2 K9, r5 K9, e1, sta, hHb, ls, lb, bldS2 oz.1 oz.2, c1', stc, hup]
    exact q1
theorem copy_L1 (h1 : H0.get x1 = some ⟨cs, 1, true⟩) (hx1 : x1 < H0.n) (hf : Rp.rep (all H0) H0 f cs) (hs : Fsm f) : ∀ (k i : Nat) (H : Heap) (a b c d : Value), i + k = f.R.length → Keep (all H0) H0 H → H.get p = some ⟨NOFILE, 1, true⟩ → Four H0 H p q a b c d ⟨f.I, f.S, f.T, f.P, f.R.take i⟩ →
    ∃ v H', Ev (fun n m => f14_L1 real (AC n) n m (ptr x1 0) (ptr p 0) (ptr q 0) (.int .i64 (i : Int)) H) (v, H') ∧ Cpd H0 f v H' := by
  have sR := hs.r
  intro k
  induction k with
  | zero =>
    intro i H a b c d hi hK gp h4
    obtain rfl : i = f.R.length := by omega
    rw [List.take_length] at h4
    obtain ⟨vI, vT, vP, vR, rfl, i1, i2, i3, i4⟩ := rep_fl.1 hf
    have l4 : ldC (ptr x1 4) H = some (vR, H) := Box.ld (R := fun _ => True) ⟨trivial, 1, true, by rw [hK.2 x1 hx1]; exact h1⟩ rfl
    have ha := all_one (s := bs f.S) h4.ha.oneC.1 h4.hb.oneC.1 h4.hc.oneC.1 h4.hd.oneC.1
    have l0 : Eng.ldA 5 (ptr q 0) H = some (.agg [a, .string (bs f.S), b, c, d].toArray, H) := ld5 h4.g rfl
    have s2 := st5 (ds := [a, .string (bs f.S), b, c, d]) gp rfl rfl ha
    have l2 : Eng.ldA 5 (ptr p 0) (H.upd p (some ⟨[a, .string (bs f.S), b, c, d], 1, true⟩)) = some (.agg [a, .string (bs f.S), b, c, d].toArray, _) := ld5 upd_self rfl
    refine ⟨_, H.upd p (some ⟨[a, .string (bs f.S), b, c, d], 1, true⟩), ?_, a, b, c, d, rfl, hK.trans (Keep.upd fun e => by have e' : p < H0.n := e; have := h4.p0; omega), h4.own _⟩
    refine Ev.step (fun n m => f14_L1.eq_2 _ _ _ _ _ _ _ _ _) ?_
    simp only [ruA, ruB, ruC, ruE, ruD, lenStr, Int.reduceBEq, Int.reduceBNe, l4, Sli.lenS i4, idx_ge (Nat.le_refl f.R.length), l0, s2, l2, Option.map_some, resM1, one1]
    exact Ev.pure _
  | succ k ih =>
    intro i H a b c d hi hK gp h4
    obtain ⟨x, y1, y2⟩ := drop_at (l := f.R) (i := i) (by omega)
    have hf' := hf
    obtain ⟨vI, vT, vP, vR, rfl, i1, i2, i3, i4⟩ := rep_fl.1 hf'
    have l4 : ldC (ptr x1 4) H = some (vR, H) := Box.ld (R := fun _ => True) ⟨trivial, 1, true, by rw [hK.2 x1 hx1]; exact h1⟩ rfl
    obtain ⟨b0, o0, c0, r1, rb0, d2, d3, _⟩ := i4.at y1
    obtain ⟨u, rfl, su⟩ := rep_rl.1 d2
    have r1 : iAddrS 2 vR (.int .i64 (i : Int)) = some (ptr b0 o0) := r1
    have r2 : ldC (ptr b0 o0) H = some (.string (bs x.N), H) := ld_keep (o := o0 + 0) (d3 0 _ rfl) rb0 hK
    have kp : Keep (all H) H (H.push ⟨[.string (bs x.N), nilS], 1, true⟩) := push_keep
    have n9 : newV [.string ⟨#[]⟩, .slice none 0 0] H = some (ptr H.n 0, H.push ⟨[.string ⟨#[]⟩, nilS], 1, true⟩) := newV_box rfl
    have st9 : stV 2 (ptr H.n 0) (.agg #[.string (bs x.N), .slice none 0 0]) (H.push ⟨[.string ⟨#[]⟩, nilS], 1, true⟩) = some (undef, H.push ⟨[.string (bs x.N), nilS], 1, true⟩) := stA_push (ds := [.string (bs x.N), nilS]) rfl rfl rfl
    have g9 : (H.push ⟨[.string (bs x.N), nilS], 1, true⟩).get H.n = some ⟨[.string (bs x.N), nilS], 1, true⟩ := push_self
    have m9 : (H.push ⟨[.string (bs x.N), nilS], 1, true⟩).n = H.n + 1 := push_n
    generalize hH9 : H.push ⟨[.string (bs x.N), nilS], 1, true⟩ = H9 at *
    obtain ⟨w, H', q1, q2⟩ := copy_L2 (s := H.n) h1 hx1 hf hs y1 hK h4 gp (fun H2 a2 b2 c2 d2 k2 g2 f2 => ih (i + 1) H2 a2 b2 c2 d2 (by omega) k2 g2 f2) x.A.length 0 H9 nilS (by omega) kp g9 (Nat.le_refl _) (by omega) AccN.nil (fun z e => by cases e)
    refine ⟨w, H', ?_, q2⟩
    refine Ev.step (fun n m => f14_L1.eq_2 _ _ _ _ _ _ _ _ _) ?_
    simp only [ruA, ruB, ruC, ruE, ruD, lenStr, Int.reduceBEq, Int.reduceBNe, Nat.add_zero, l4, Sli.lenS i4, idx_lt (show i < f.R.length by omega), r1, r2, bldRl, n9, st9, hH9]
    exact Ev3.close q1
/-- The lists of precedences. -/
theorem copy_L0 (h1 : H0.get x1 = some ⟨cs, 1, true⟩) (hx1 : x1 < H0.n) (hf : Rp.rep (all H0) H0 f cs) (hs : Fsm f) : ∀ (k i : Nat) (H : Heap) (a b c d : Value), i + k = f.P.length → Keep (all H0) H0 H → H.get p = some ⟨NOFILE, 1, true⟩ → Four H0 H p q a b c d ⟨f.I, f.S, f.T, f.P.take i, []⟩ →
    ∃ v H', Ev (fun n m => f14_L0 real (AC n) n m (ptr x1 0) (ptr p 0) (ptr q 0) (.int .i64 (i : Int)) H) (v, H') ∧ Cpd H0 f v H' := by
  have sP := hs.p
  have hf' := hf
  obtain ⟨vI, vT, vP, vR, rfl, i1, i2, i3, i4⟩ := rep_fl.1 hf'
  intro k
  induction k with
  | zero =>
    intro i H a b c d hi hK gp h4
    obtain rfl : i = f.P.length := by omega
    rw [List.take_length] at h4
    have l4 : ldC (ptr x1 3) H = some (vP, H) := Box.ld (R := fun _ => True) ⟨trivial, 1, true, by rw [hK.2 x1 hx1]; exact h1⟩ rfl
    obtain ⟨v, H', q1, q2⟩ := copy_L1 h1 hx1 hf hs f.R.length 0 H a b c d (by omega) hK gp (by simpa using h4)
    refine ⟨v, H', ?_, q2⟩
    refine Ev.step (fun n m => f14_L0.eq_2 _ _ _ _ _ _ _ _ _) ?_
    simp only [ruA, ruB, ruC, ruE, ruD, lenStr, Int.reduceBEq, Int.reduceBNe, l4, Sli.lenS i3, idx_ge (Nat.le_refl f.P.length)]
    exact q1.loop
  | succ k ih =>
    intro i H a b c d hi hK gp h4
    obtain ⟨x, y1, y2⟩ := drop_at (l := f.P) (i := i) (by omega)
    have l4 : ∀ {H' : Heap}, Keep (all H0) H0 H' → ldC (ptr x1 3) H' = some (vP, H') := fun hk => Box.ld (R := fun _ => True) ⟨trivial, 1, true, by rw [hk.2 x1 hx1]; exact h1⟩ rfl
    obtain ⟨b0, o0, c0, r1, rb0, d2, d3, _⟩ := i3.at y1
    obtain ⟨w, rfl, xk, sw⟩ := rep_pr.1 d2
    have r1 : iAddrS 2 vP (.int .i64 (i : Int)) = some (ptr b0 o0) := r1
    have r2 : ∀ {H' : Heap}, Keep (all H0) H0 H' → ldC (ptr b0 o0) H' = some (.int .i64 x.K, H') := fun hk => ld_keep (o := o0 + 0) (d3 0 _ rfl) rb0 hk
    have r3 : ∀ {H' : Heap}, Keep (all H0) H0 H' → ldC (ptr b0 (o0 + 1)) H' = some (w, H') := fun hk => ld_keep (d3 1 _ rfl) rb0 hk
    have kp : Keep (all H) H (H.push ⟨[.int .i64 x.K, nilS], 1, true⟩) := push_keep
    have n9 : newV [.int .i64 0, .slice none 0 0] H = some (ptr H.n 0, H.push ⟨[.int .i64 0, nilS], 1, true⟩) := newV_box rfl
    have st9 : stV 2 (ptr H.n 0) (.agg #[.int .i64 x.K, .slice none 0 0]) (H.push ⟨[.int .i64 0, nilS], 1, true⟩) = some (undef, H.push ⟨[.int .i64 x.K, nilS], 1, true⟩) := stA_push (ds := [.int .i64 x.K, nilS]) rfl rfl rfl
    have g9 : (H.push ⟨[.int .i64 x.K, nilS], 1, true⟩).get H.n = some ⟨[.int .i64 x.K, nilS], 1, true⟩ := push_self
    have m9 : (H.push ⟨[.int .i64 x.K, nilS], 1, true⟩).n = H.n + 1 := push_n
    generalize hH9 : H.push ⟨[.int .i64 x.K, nilS], 1, true⟩ = H9 at *
    have K9 : Keep (all H0) H0 H9 := hK.trans (kp.of_all ((Rb.all H0).mono hK.1))
    have l9 : ldC (ptr H.n 1) H9 = some (nilS, H9) := Box.ld (R := fun _ => True) ⟨trivial, _, _, g9⟩ rfl
    obtain ⟨z, Ha, e1, e2, e3⟩ := texts_new (Sl.keep sw K9) (Nat.le_trans (hs.ps x (List.mem_of_getElem? y1)) (by decide))
    have oz := e2.oneC
    have ga : Ha.get H.n = some ⟨[.int .i64 x.K, nilS], 1, true⟩ := by rw [e3.2 _ (by show H.n < H9.n; omega)]; exact g9
    have hz : ∀ q, blkOf z = some q → H9.n ≤ q ∧ q < Ha.n := fun q e => by
      have := e2.at e
      exact ⟨Nat.le_of_not_lt this.1, this.2⟩
    have sta : stV 1 (ptr H.n 1) z Ha = some (undef, Ha.upd H.n (some ⟨[.int .i64 x.K, z], 1, true⟩)) := stV1_box ga (by simp) oz.2 oz.1
    have ku : Keep (But Ha H.n) Ha (Ha.upd H.n (some ⟨[.int .i64 x.K, z], 1, true⟩)) := upd_butQ
    have na : H9.n ≤ Ha.n := e3.1
    have eb : Acc (all H9) (Ha.upd H.n (some ⟨[.int .i64 x.K, z], 1, true⟩)) 1 z x.N.length (STRL x.N) := e2.box (fun e => by have := hz _ e; omega) ku
    have gb : (Ha.upd H.n (some ⟨[.int .i64 x.K, z], 1, true⟩)).get H.n = some ⟨[.int .i64 x.K, z], 1, true⟩ := upd_self
    have kb : Keep (all H) H (Ha.upd H.n (some ⟨[.int .i64 x.K, z], 1, true⟩)) := kp.tr e3 |>.trans (ku.mono fun q hq => by have : q < H.n := hq; exact ⟨by omega, by omega⟩)
    generalize hHb : Ha.upd H.n (some ⟨[.int .i64 x.K, z], 1, true⟩) = Hb at *
    have lb := ld2 gb
    have f4 := h4.low kb
    have nb : H.n ≤ Hb.n := kb.1
    have ld : ldC (ptr q 3) Hb = some (c, Hb) := Box.ld (R := fun _ => True) ⟨trivial, _, _, f4.g⟩ rfl
    have hlt := lf_lt h4
    have hrep : Rp.rep (Stay Hb (Lf H0.n p q a b c d)) Hb x [.int .i64 x.K, z] := rep_pr.2 ⟨z, rfl, xk, eb.read fun q e1 e2 => ⟨e2, fun e => by have := hlt q e; exact e1 (by show q < H9.n; omega)⟩⟩
    have htl : (f.P.take i).length ≤ f.P.length := by simp; omega
    obtain ⟨c', H2, b1, b2, b3, b4⟩ := f4.addP hrep (by show (f.P.take i).length < 1000000000000; omega)
    have K2 : Keep (all H0) H0 (H2.upd q (some ⟨[a, .string (bs f.S), b, c', d], 1, true⟩)) := (hK.trans (kb.of_all ((Rb.all H0).mono hK.1))).trans (b4.mono fun z hz => .inl hz)
    have et : f.P.take i ++ [x] = f.P.take (i + 1) := by rw [List.take_add_one, y1]; rfl
    have gp2 : (H2.upd q (some ⟨[a, .string (bs f.S), b, c', d], 1, true⟩)).get p = some ⟨NOFILE, 1, true⟩ := by rw [b4.2 p (.inr rfl), kb.2 p h4.pn]; exact gp
    obtain ⟨w', H', q1, q2⟩ := ih (i + 1) _ a b c' d (by omega) K2 gp2 (by rw [← et]; exact b3)
    refine ⟨w', H', ?_, q2⟩
    refine Ev.step (fun n m => f14_L0.eq_2 _ _ _ _ _ _ _ _ _) ?_
    have hup := idx_up (show i < 9223372036854775807 by omega)
    simp only [ruA, ruB, ruC, ruE, ruD, lenStr, Int.reduceBEq, Int.reduceBNe, Nat.add_zero, l4 hK, Sli.lenS i3, idx_lt (show i < f.P.length by omega), r1, r2 hK, bldPk, n9, st9, hH9, l9, l4 K9, r3 K9, e1, sta, hHb, ld, lb, bldP oz.1 oz.2, b1, b2, hup]
    exact q1
end
/-- A copy. -/
theorem copyF_ok {H : Heap} {f : Fl} {cs : List Value} (hf : Rp.rep (all H) H f cs) (hs : Fsm f) : ∃ v H', Cl 14 [.agg cs.toArray] H v H' ∧ Cpd H f v H' := by
  have k1 : Keep (all H) H (H.push ⟨cs, 1, true⟩) := push_keep
  have n1 : newV (Value.cells (.agg cs.toArray)).toList H = some (ptr H.n 0, H.push ⟨cs, 1, true⟩) := newA (Rp.one hf)
  have g1 : (H.push ⟨cs, 1, true⟩).get H.n = some ⟨cs, 1, true⟩ := push_self
  have m1 : (H.push ⟨cs, 1, true⟩).n = H.n + 1 := push_n
  generalize hH1 : H.push ⟨cs, 1, true⟩ = H1 at *
  have hf1 := Rp.up hf k1
  have k2 : Keep (all H1) H1 (H1.push ⟨NOFILE, 1, true⟩) := push_keep
  have n2 := newF (H := H1)
  have g2 : (H1.push ⟨NOFILE, 1, true⟩).get H1.n = some ⟨NOFILE, 1, true⟩ := push_self
  have m2 : (H1.push ⟨NOFILE, 1, true⟩).n = H1.n + 1 := push_n
  generalize hH2 : H1.push ⟨NOFILE, 1, true⟩ = H2 at *
  have n3 := newF (H := H2)
  have k3 : Keep (all H2) H2 (H2.push ⟨[nilS, .string (bs f.S), nilS, nilS, nilS], 1, true⟩) := push_keep
  have st3 : stV 5 (ptr H2.n 0) (.agg [nilS, .string (bs f.S), nilS, nilS, nilS].toArray) (H2.push ⟨NOFILE, 1, true⟩) = some (undef, H2.push ⟨[nilS, .string (bs f.S), nilS, nilS, nilS], 1, true⟩) := stA_push rfl rfl rfl
  have g3 : (H2.push ⟨[nilS, .string (bs f.S), nilS, nilS, nilS], 1, true⟩).get H2.n = some ⟨[nilS, .string (bs f.S), nilS, nilS, nilS], 1, true⟩ := push_self
  have m3 : (H2.push ⟨[nilS, .string (bs f.S), nilS, nilS, nilS], 1, true⟩).n = H2.n + 1 := push_n
  generalize hH3 : H2.push ⟨[nilS, .string (bs f.S), nilS, nilS, nilS], 1, true⟩ = H3 at *
  have f3' : Four H1 H3 H1.n H2.n nilS nilS nilS nilS { Fl.none with S := f.S } := Four.newS g3 (by omega) (by omega) (Nat.le_refl _) (by omega) (by omega)
  have K3 : Keep (all H1) H1 H3 := k2.tr k3
  have hf' := hf1
  obtain ⟨vI, vT, vP, vR, rfl, i1, i2, i3, i4⟩ := rep_fl.1 hf'
  have l1 : ldC (ptr H.n 1) H2 = some (.string (bs f.S), H2) := Box.ld (R := fun _ => True) ⟨trivial, 1, true, by rw [k2.2 _ (by show H.n < H1.n; omega)]; exact g1⟩ rfl
  have l0 : ldC (ptr H.n 0) H3 = some (vI, H3) := Box.ld (R := fun _ => True) ⟨trivial, 1, true, by rw [K3.2 _ (by show H.n < H1.n; omega)]; exact g1⟩ rfl
  have lq : ldC (ptr H2.n 0) H3 = some (nilS, H3) := Box.ld (R := fun _ => True) ⟨trivial, _, _, g3⟩ rfl
  have i1' := Sl.keep i1 K3
  have sI := hs.i
  have sT := hs.t
  obtain ⟨a, H4, e1, e2, e3, e4, e5⟩ := f3'.appI (ys := f.I) i1'.addend (rpl_txt.2 rfl) (by simp [Fl.none]; omega)
  have K4 : Keep (all H1) H1 (H4.upd H2.n (some ⟨[a, .string (bs f.S), nilS, nilS, nilS], 1, true⟩)) := K3.trans (e4.mono fun z hz => ⟨by have : z < H1.n := hz; omega, .inl hz⟩)
  have e3' : Four H1 (H4.upd H2.n (some ⟨[a, .string (bs f.S), nilS, nilS, nilS], 1, true⟩)) H1.n H2.n a nilS nilS nilS ⟨f.I, f.S, [], [], []⟩ := e3
  have gp4 : (H4.upd H2.n (some ⟨[a, .string (bs f.S), nilS, nilS, nilS], 1, true⟩)).get H1.n = some ⟨NOFILE, 1, true⟩ := by rw [e4.2 _ ⟨by omega, .inr (.inl rfl)⟩, k3.2 _ (by show H1.n < H2.n; omega)]; exact g2
  generalize hH5 : H4.upd H2.n (some ⟨[a, .string (bs f.S), nilS, nilS, nilS], 1, true⟩) = H5 at *
  have l2 : ldC (ptr H.n 2) H5 = some (vT, H5) := Box.ld (R := fun _ => True) ⟨trivial, 1, true, by rw [K4.2 _ (by show H.n < H1.n; omega)]; exact g1⟩ rfl
  have lq2 : ldC (ptr H2.n 2) H5 = some (nilS, H5) := Box.ld (R := fun _ => True) ⟨trivial, _, _, e3'.g⟩ rfl
  obtain ⟨tcs, t1, t2⟩ := i2.keep K4
  obtain ⟨b, H6, u1, u2, u3, u4, u5⟩ := e3'.appT (ys := f.T) t1.addend (rpl_tm t2) (by simp; omega)
  have K6 : Keep (all H1) H1 (H6.upd H2.n (some ⟨[a, .string (bs f.S), b, nilS, nilS], 1, true⟩)) := K4.trans (u4.mono fun z hz => ⟨Nat.lt_of_lt_of_le hz K4.1, .inl hz⟩)
  have gp6 : (H6.upd H2.n (some ⟨[a, .string (bs f.S), b, nilS, nilS], 1, true⟩)).get H1.n = some ⟨NOFILE, 1, true⟩ := by rw [u4.2 _ ⟨e3'.pn, .inr (.inl rfl)⟩]; exact gp4
  obtain ⟨v, H', q1, q2⟩ := copy_L0 (p := H1.n) (q := H2.n) g1 (by omega) hf1 hs f.P.length 0 _ a b nilS nilS (by omega) K6 gp6 u3
  obtain ⟨a', b', c', d', w1, w2, w3⟩ := q2
  refine ⟨v, H', ?_, a', b', c', d', w1, k1.tr w2, ?_⟩
  · refine Ev.enter (fun n => f14_eq rfl n _ _) ?_
    simp only [f14, ruA, ruB, ruC, ruE, ruD, lenStr, Int.reduceBEq, Int.reduceBNe, n1, n2, l1, bldF1, n3, st3, hH3, l0, lq, e1, e2, hH5, l2, lq2, u1, u2]
    exact q1.loop
  · have kl : ∀ x, Stay H' (Lo H1.n a' b' c' d') x → Stay H' (Lo H.n a' b' c' d') x := fun x hx => ⟨hx.1, fun e => hx.2 (by
      rcases e with e | e
      · exact .inl (by omega)
      · exact .inr e)⟩
    have lo : ∀ {α : Type} [Rp α] {v : Value} {xs : List α}, AccR H1 H' (Lo H1.n a' b' c' d') v xs → AccR H H' (Lo H.n a' b' c' d') v xs := fun h => by
      obtain ⟨cs, h1, h2⟩ := h
      exact ⟨cs, h1.low fun q hq => by have : q < H.n := hq; show q < H1.n; omega, h2.mono kl⟩
    exact { w3 with ha := lo w3.ha, hb := lo w3.hb, hc := lo w3.hc, hd := lo w3.hd }
end Go.Eng

/- Two files are joined; the law GramJoin. -/
set_option linter.unusedVariables false
set_option linter.unusedSimpArgs false
set_option linter.unusedSectionVars false
set_option maxRecDepth 100000
namespace Go.Eng
open Go Go.Proofs

theorem Own4.rep {H0 H : Heap} {a b c d : Value} {f : Fl} (h : Own4 H0 H a b c d f) : Rp.rep (fun q => H0.n ≤ q ∧ q < H.n) H f [a, .string (bs f.S), b, c, d] := by
  have hL : ∀ z, z < H0.n → Lo H0.n a b c d z := fun z hz => .inl hz
  refine rep_fl.2 ⟨a, b, c, d, rfl, ?_, h.hb.sli hL, h.hc.sli hL, h.hd.sli hL⟩
  obtain ⟨cs, h1, h2⟩ := h.ha.sli hL
  rw [rpl_txt.1 h2] at h1
  exact h1
theorem Own4.lt {H0 H : Heap} {a b c d : Value} {f : Fl} (h : Own4 H0 H a b c d f) : ∀ x, blkOf a = some x ∨ blkOf b = some x ∨ blkOf c = some x ∨ blkOf d = some x → H0.n ≤ x ∧ x < H.n := fun x hx => by
  rcases hx with hx | hx | hx | hx
  · exact h.ha.at hx
  · exact h.hb.at hx
  · exact h.hc.at hx
  · exact h.hd.at hx
/-- A box for lists of one's own. -/
theorem Own4.four {H0 H0' H1 H2 : Heap} {p q : Nat} {a b c d : Value} {f : Fl} (h : Own4 H0' H1 a b c d f) (hk : Keep (fun x => H0'.n ≤ x ∧ x < H1.n) H1 H2) (h0 : H0.n ≤ H0'.n) (hp : H0.n ≤ p ∧ p < H0'.n) (hq : H0.n ≤ q ∧ q < H0'.n) (pq : p ≠ q) (hn : H0'.n ≤ H1.n)
    (g : H2.get q = some ⟨[a, .string (bs f.S), b, c, d], 1, true⟩) : Four H0 H2 p q a b c d f :=
  have kk : Keep (Stay H1 (Lo H0'.n a b c d)) H1 H2 := hk.mono fun x hx => ⟨Nat.le_of_not_lt fun e => hx.2 (.inl e), hx.1⟩
  have kl : ∀ x, Stay H1 (Lo H0'.n a b c d) x → Stay H2 (Lf H0.n p q a b c d) x := fun x hx => ⟨Nat.lt_of_lt_of_le hx.1 hk.1, fun e => hx.2 (by
    unfold Lf at e; unfold Lo
    rcases e with e | e | e | e | e | e | e
    · left; omega
    · left; omega
    · left; omega
    · simp [e]
    · simp [e]
    · simp [e]
    · simp [e])⟩
  have lo : ∀ {α : Type} [Rp α] {v : Value} {xs : List α}, (∀ x, blkOf v = some x → H0'.n ≤ x ∧ x < H1.n) → AccR H0' H1 (Lo H0'.n a b c d) v xs → AccR H0 H2 (Lf H0.n p q a b c d) v xs := fun hb h => by
    have := h.move kk (fun x e => hk.2 x (hb x e)) kl
    obtain ⟨cs, h1, h2⟩ := this
    exact ⟨cs, h1.low fun q hq => by have : q < H0.n := hq; show q < H0'.n; omega, h2⟩
  { g := g
    q0 := hq.1
    qn := by have := hk.1; omega
    p0 := hp.1
    pn := by have := hk.1; omega
    pq := pq
    ha := lo (fun x e => h.ha.at e) h.ha
    hb := lo (fun x e => h.hb.at e) h.hb
    hc := lo (fun x e => h.hc.at e) h.hc
    hd := lo (fun x e => h.hd.at e) h.hd
    ab := h.ab
    ac := h.ac
    ad := h.ad
    bc := h.bc
    bd := h.bd
    cd := h.cd
    na := fun x e => by have := h.ha.at e; omega
    nb := fun x e => by have := h.hb.at e; omega
    nc := fun x e => by have := h.hc.at e; omega
    nd := fun x e => by have := h.hd.at e; omega }
section
variable {H0 H : Heap} {p q y : Nat} {a b c d ga gb gc gd : Value} {f g : Fl} {Q : Nat → Prop}
theorem off_q {H0 H H' : Heap} {p q : Nat} {a b c d : Value} {Q : Nat → Prop} (hk : Keep (Off H0 H p q a b c d) H H') (hQ : ∀ z, Q z → z < H.n ∧ ¬ Lf H0.n p q a b c d z) : Keep Q H H' := hk.mono fun z hz => ⟨(hQ z hz).1, .inr (.inr (hQ z hz).2)⟩
theorem join_J1 (h4 : Four H0 H p q a b c d f) (gp : H.get p = some ⟨NOFILE, 1, true⟩) (hy : H.get y = some ⟨[ga, .string (bs g.S), gb, gc, gd], 1, true⟩) (hg : Rp.rep Q H g [ga, .string (bs g.S), gb, gc, gd]) (hQ : ∀ z, Q z ∨ z = y → z < H.n ∧ ¬ Lf H0.n p q a b c d z) (fs : Fsm f) (gs : Fsm g) :
    ∃ v H', Ev (fun n m => f13_J1 real (AC n) n (ptr q 0) (ptr y 0) (ptr p 0) H) (v, H') ∧ Keep (all H0) H H' ∧ ∃ cs, v = .agg cs.toArray ∧ Rp.rep (all H') H' (show Fl from ⟨f.I ++ g.I, f.S, f.T ++ g.T, f.P ++ g.P, f.R ++ g.R⟩) cs := by
  obtain ⟨vI, vT, vP, vR, e, i1, i2, i3, i4⟩ := rep_fl.1 hg
  injection e with e1 e
  injection e with e2 e
  injection e with e3 e
  injection e with e4 e
  injection e with e5 e
  subst e1 e3 e4 e5
  obtain ⟨fi, ft, fp, fr, _, _⟩ := fs
  obtain ⟨gi, gt, gp_, gr, _, _⟩ := gs
  have low : ∀ {H1 H2 : Heap} {a b c d : Value} {f : Fl}, Four H0 H1 p q a b c d f → Keep (Off H0 H1 p q a b c d) H1 H2 → Keep (all H0) H1 H2 ∧ H2.get p = H1.get p := by
    intro H1 H2 a b c d f h k
    exact ⟨k.mono fun z hz => ⟨Nat.lt_of_lt_of_le hz h.hn, .inl hz⟩, k.2 p ⟨h.pn, .inr (.inl rfl)⟩⟩
  -- imports
  have la : ldC (ptr q 0) H = some (a, H) := Box.ld (R := fun _ => True) ⟨trivial, _, _, h4.g⟩ rfl
  have ya : ldC (ptr y 0) H = some (ga, H) := Box.ld (R := fun _ => True) ⟨trivial, _, _, hy⟩ rfl
  obtain ⟨a', H1, s1, t1, h5, k1, n1⟩ := h4.appI (ys := g.I) (i1.addend) (rpl_txt.2 rfl) (by omega)
  have hQ1 : ∀ z, Q z ∨ z = y → z < (H1.upd q (some ⟨[a', .string (bs f.S), b, c, d], 1, true⟩)).n ∧ ¬ Lf H0.n p q a' b c d z := fun z hz => by
    obtain ⟨z1, z2⟩ := hQ z hz
    refine ⟨Nat.lt_of_lt_of_le z1 k1.1, fun e => ?_⟩
    unfold Lf at e z2
    rcases e with e | e | e | e | e | e | e
    · exact z2 (by simp [e])
    · exact z2 (by simp [e])
    · exact z2 (by simp [e])
    · rcases n1 z e with e | e
      · exact z2 (by simp [e])
      · omega
    · exact z2 (by simp [e])
    · exact z2 (by simp [e])
    · exact z2 (by simp [e])
  have q1 := off_q k1 hQ
  obtain ⟨m1, p1⟩ := low h4 k1
  generalize hK1 : H1.upd q (some ⟨[a', .string (bs f.S), b, c, d], 1, true⟩) = K1 at *
  have y1 : K1.get y = some ⟨[ga, .string (bs g.S), gb, gc, gd], 1, true⟩ := by rw [q1.2 y (.inr rfl)]; exact hy
  have i2' := i2.keep (q1.mono fun z hz => .inl hz)
  have i3' := i3.keep (q1.mono fun z hz => .inl hz)
  have i4' := i4.keep (q1.mono fun z hz => .inl hz)
  -- terms
  have lb : ldC (ptr q 2) K1 = some (b, K1) := Box.ld (R := fun _ => True) ⟨trivial, _, _, h5.g⟩ rfl
  have yb : ldC (ptr y 2) K1 = some (gb, K1) := Box.ld (R := fun _ => True) ⟨trivial, _, _, y1⟩ rfl
  obtain ⟨tc, tc1, tc2⟩ := i2'
  obtain ⟨b', H2, s2, t2, h6, k2, n2⟩ := h5.appT (ys := g.T) tc1.addend (rpl_tm tc2) (by simp; omega)
  have hQ2 : ∀ z, Q z ∨ z = y → z < (H2.upd q (some ⟨[a', .string (bs f.S), b', c, d], 1, true⟩)).n ∧ ¬ Lf H0.n p q a' b' c d z := fun z hz => by
    obtain ⟨z1, z2⟩ := hQ1 z hz
    refine ⟨Nat.lt_of_lt_of_le z1 k2.1, fun e => ?_⟩
    unfold Lf at e z2
    rcases e with e | e | e | e | e | e | e
    · exact z2 (by simp [e])
    · exact z2 (by simp [e])
    · exact z2 (by simp [e])
    · exact z2 (by simp [e])
    · rcases n2 z e with e | e
      · exact z2 (by simp [e])
      · omega
    · exact z2 (by simp [e])
    · exact z2 (by simp [e])
  have q2 := off_q k2 hQ1
  obtain ⟨m2, p2⟩ := low h5 k2
  have k2' : Keep (Off H0 K1 p q a' b c d) K1 (H2.upd q (some ⟨[a', .string (bs f.S), b', c, d], 1, true⟩)) := k2
  have t2' : stV 1 (ptr q 2) b' H2 = some (undef, H2.upd q (some ⟨[a', .string (bs f.S), b', c, d], 1, true⟩)) := t2
  have h6' : Four H0 (H2.upd q (some ⟨[a', .string (bs f.S), b', c, d], 1, true⟩)) p q a' b' c d ⟨f.I ++ g.I, f.S, f.T ++ g.T, f.P, f.R⟩ := h6
  have p2' : (H2.upd q (some ⟨[a', .string (bs f.S), b', c, d], 1, true⟩)).get p = K1.get p := p2
  have m2' : Keep (all H0) K1 (H2.upd q (some ⟨[a', .string (bs f.S), b', c, d], 1, true⟩)) := m2
  have q2' : Keep (fun z => Q z ∨ z = y) K1 (H2.upd q (some ⟨[a', .string (bs f.S), b', c, d], 1, true⟩)) := q2
  clear h6 k2 t2 p2 m2 q2
  generalize hK2 : H2.upd q (some ⟨[a', .string (bs f.S), b', c, d], 1, true⟩) = K2 at *
  have y2 : K2.get y = some ⟨[ga, .string (bs g.S), gb, gc, gd], 1, true⟩ := by rw [q2'.2 y (.inr rfl)]; exact y1
  have i3'' := i3'.keep (q2'.mono fun z hz => .inl hz)
  have i4'' := i4'.keep (q2'.mono fun z hz => .inl hz)
  -- precedences
  have lc : ldC (ptr q 3) K2 = some (c, K2) := Box.ld (R := fun _ => True) ⟨trivial, _, _, h6'.g⟩ rfl
  have yc : ldC (ptr y 3) K2 = some (gc, K2) := Box.ld (R := fun _ => True) ⟨trivial, _, _, y2⟩ rfl
  obtain ⟨pc, pc1, pc2⟩ := i3''
  obtain ⟨c', H3, s3, t3, h7, k3, n3⟩ := h6'.appP (ys := g.P) pc1.addend (pc2.mono fun z hz => hQ2 z (.inl hz)) (by simp; omega)
  have hQ3 : ∀ z, Q z ∨ z = y → z < (H3.upd q (some ⟨[a', .string (bs f.S), b', c', d], 1, true⟩)).n ∧ ¬ Lf H0.n p q a' b' c' d z := fun z hz => by
    obtain ⟨z1, z2⟩ := hQ2 z hz
    refine ⟨Nat.lt_of_lt_of_le z1 k3.1, fun e => ?_⟩
    unfold Lf at e z2
    rcases e with e | e | e | e | e | e | e
    · exact z2 (by simp [e])
    · exact z2 (by simp [e])
    · exact z2 (by simp [e])
    · exact z2 (by simp [e])
    · exact z2 (by simp [e])
    · rcases n3 z e with e | e
      · exact z2 (by simp [e])
      · omega
    · exact z2 (by simp [e])
  have q3 : Keep (fun z => Q z ∨ z = y) K2 (H3.upd q (some ⟨[a', .string (bs f.S), b', c', d], 1, true⟩)) := off_q k3 hQ2
  obtain ⟨m3, p3⟩ := low h6' k3
  have t3' : stV 1 (ptr q 3) c' H3 = some (undef, H3.upd q (some ⟨[a', .string (bs f.S), b', c', d], 1, true⟩)) := t3
  have h7' : Four H0 (H3.upd q (some ⟨[a', .string (bs f.S), b', c', d], 1, true⟩)) p q a' b' c' d ⟨f.I ++ g.I, f.S, f.T ++ g.T, f.P ++ g.P, f.R⟩ := h7
  have p3' : (H3.upd q (some ⟨[a', .string (bs f.S), b', c', d], 1, true⟩)).get p = K2.get p := p3
  have m3' : Keep (all H0) K2 (H3.upd q (some ⟨[a', .string (bs f.S), b', c', d], 1, true⟩)) := m3
  clear h7 k3 t3 p3 m3
  generalize hK3 : H3.upd q (some ⟨[a', .string (bs f.S), b', c', d], 1, true⟩) = K3 at *
  have y3 : K3.get y = some ⟨[ga, .string (bs g.S), gb, gc, gd], 1, true⟩ := by rw [q3.2 y (.inr rfl)]; exact y2
  -- rules
  have ldd : ldC (ptr q 4) K3 = some (d, K3) := Box.ld (R := fun _ => True) ⟨trivial, _, _, h7'.g⟩ rfl
  have yd : ldC (ptr y 4) K3 = some (gd, K3) := Box.ld (R := fun _ => True) ⟨trivial, _, _, y3⟩ rfl
  obtain ⟨rc, rc1, rc2⟩ := i4''.keep (q3.mono fun z hz => .inl hz)
  obtain ⟨d', H4, s4, t4, h8, k4, n4⟩ := h7'.appR (ys := g.R) rc1.addend (rc2.mono fun z hz => hQ3 z (.inl hz)) (by simp; omega)
  obtain ⟨m4, p4⟩ := low h7' k4
  have t4' : stV 1 (ptr q 4) d' H4 = some (undef, H4.upd q (some ⟨[a', .string (bs f.S), b', c', d'], 1, true⟩)) := t4
  have h8' : Four H0 (H4.upd q (some ⟨[a', .string (bs f.S), b', c', d'], 1, true⟩)) p q a' b' c' d' ⟨f.I ++ g.I, f.S, f.T ++ g.T, f.P ++ g.P, f.R ++ g.R⟩ := h8
  have p4' : (H4.upd q (some ⟨[a', .string (bs f.S), b', c', d'], 1, true⟩)).get p = K3.get p := p4
  have m4' : Keep (all H0) K3 (H4.upd q (some ⟨[a', .string (bs f.S), b', c', d'], 1, true⟩)) := m4
  clear h8 k4 t4 p4 m4
  generalize hK4 : H4.upd q (some ⟨[a', .string (bs f.S), b', c', d'], 1, true⟩) = K4 at *
  have gpp : K4.get p = some ⟨NOFILE, 1, true⟩ := by rw [p4', p3', p2', p1]; exact gp
  have ha := all_one (s := bs f.S) h8'.ha.oneC.1 h8'.hb.oneC.1 h8'.hc.oneC.1 h8'.hd.oneC.1
  have l0 : Eng.ldA 5 (ptr q 0) K4 = some (.agg [a', .string (bs f.S), b', c', d'].toArray, K4) := ld5 h8'.g rfl
  have s5 := st5 (ds := [a', .string (bs f.S), b', c', d']) gpp rfl rfl ha
  have l5 : Eng.ldA 5 (ptr p 0) (K4.upd p (some ⟨[a', .string (bs f.S), b', c', d'], 1, true⟩)) = some (.agg [a', .string (bs f.S), b', c', d'].toArray, _) := ld5 upd_self rfl
  refine ⟨_, K4.upd p (some ⟨[a', .string (bs f.S), b', c', d'], 1, true⟩), ?_, (((m1.trans m2').trans m3').trans m4').trans (Keep.upd fun e => by have e' : p < H0.n := e; have := h8'.p0; omega), [a', .string (bs f.S), b', c', d'], rfl, ?_⟩
  · simp only [f13_J1, ruA, ruB, ruC, ruE, ruD, lenStr, Int.reduceBEq, Int.reduceBNe, la, ya, s1, t1, hK1, lb, yb, s2, t2', hK2, lc, yc, s3, t3', hK3, ldd, yd, s4, t4', hK4, l0, s5, l5, Option.map_some, resM1, one1]
    exact Ev.pure _
  · exact Rp.mono (x := (⟨f.I ++ g.I, f.S, f.T ++ g.T, f.P ++ g.P, f.R ++ g.R⟩ : Fl)) (h8'.own (some ⟨[a', .string (bs f.S), b', c', d'], 1, true⟩)).rep fun z hz => hz.2
end
/-- Two files are joined. -/
theorem joined_ok {H : Heap} {f g : Fl} {cs ds : List Value} (hf : Rp.rep (all H) H f cs) (hg : Rp.rep (all H) H g ds) (fs : Fsm f) (gs : Fsm g) :
    ∃ v H', Cl 13 [.agg cs.toArray, .agg ds.toArray] H v H' ∧ Keep (all H) H H' ∧ ∃ es, v = .agg es.toArray ∧ Rp.rep (all H') H' (joinN f g) es := by
  have k1 : Keep (all H) H (H.push ⟨cs, 1, true⟩) := push_keep
  have n1 : newV (Value.cells (.agg cs.toArray)).toList H = some (ptr H.n 0, H.push ⟨cs, 1, true⟩) := newA (Rp.one hf)
  have g1 : (H.push ⟨cs, 1, true⟩).get H.n = some ⟨cs, 1, true⟩ := push_self
  have m1 : (H.push ⟨cs, 1, true⟩).n = H.n + 1 := push_n
  generalize hH1 : H.push ⟨cs, 1, true⟩ = H1 at *
  have k2 : Keep (all H1) H1 (H1.push ⟨ds, 1, true⟩) := push_keep
  have n2 : newV (Value.cells (.agg ds.toArray)).toList H1 = some (ptr H1.n 0, H1.push ⟨ds, 1, true⟩) := newA (Rp.one hg)
  have g2 : (H1.push ⟨ds, 1, true⟩).get H1.n = some ⟨ds, 1, true⟩ := push_self
  have m2 : (H1.push ⟨ds, 1, true⟩).n = H1.n + 1 := push_n
  generalize hH2 : H1.push ⟨ds, 1, true⟩ = H2 at *
  have k3 : Keep (all H2) H2 (H2.push ⟨NOFILE, 1, true⟩) := push_keep
  have n3 := newF (H := H2)
  have g3 : (H2.push ⟨NOFILE, 1, true⟩).get H2.n = some ⟨NOFILE, 1, true⟩ := push_self
  have m3 : (H2.push ⟨NOFILE, 1, true⟩).n = H2.n + 1 := push_n
  generalize hH3 : H2.push ⟨NOFILE, 1, true⟩ = H3 at *
  have K3 := (k1.tr k2).tr k3
  have gA : H3.get H.n = some ⟨cs, 1, true⟩ := by rw [(k2.tr k3).2 _ (by show H.n < H1.n; omega)]; exact g1
  have gB : H3.get H1.n = some ⟨ds, 1, true⟩ := by rw [k3.2 _ (by show H1.n < H2.n; omega)]; exact g2
  have l1 := ld5 gA (Rp.len hf)
  obtain ⟨_, H4, c1, a, b, c, d, rfl, k4, o4⟩ := copyF_ok (Rp.up hf K3) fs
  have gA4 : H4.get H.n = some ⟨cs, 1, true⟩ := by rw [k4.2 _ (by show H.n < H3.n; omega)]; exact gA
  have haF := all_one (s := bs f.S) o4.ha.oneC.1 o4.hb.oneC.1 o4.hc.oneC.1 o4.hd.oneC.1
  have st4 := st5 (ds := [a, .string (bs f.S), b, c, d]) gA4 (Rp.len hf) rfl haF
  have ku : Keep (But H4 H.n) H4 (H4.upd H.n (some ⟨[a, .string (bs f.S), b, c, d], 1, true⟩)) := upd_butQ
  have gA5 : (H4.upd H.n (some ⟨[a, .string (bs f.S), b, c, d], 1, true⟩)).get H.n = some ⟨[a, .string (bs f.S), b, c, d], 1, true⟩ := upd_self
  have n4 : H3.n ≤ H4.n := k4.1
  have n5 : (H4.upd H.n (some ⟨[a, .string (bs f.S), b, c, d], 1, true⟩)).n = H4.n := upd_n
  have gB5 : (H4.upd H.n (some ⟨[a, .string (bs f.S), b, c, d], 1, true⟩)).get H1.n = some ⟨ds, 1, true⟩ := by rw [ku.2 _ ⟨by omega, by omega⟩, k4.2 _ (by show H1.n < H3.n; omega)]; exact gB
  have gP5 : (H4.upd H.n (some ⟨[a, .string (bs f.S), b, c, d], 1, true⟩)).get H2.n = some ⟨NOFILE, 1, true⟩ := by rw [ku.2 _ ⟨by omega, by omega⟩, k4.2 _ (by show H2.n < H3.n; omega)]; exact g3
  have K5 : Keep (all H) H (H4.upd H.n (some ⟨[a, .string (bs f.S), b, c, d], 1, true⟩)) := (K3.tr k4).trans (ku.mono fun z hz => by have : z < H.n := hz; exact ⟨by omega, by omega⟩)
  generalize hH5 : H4.upd H.n (some ⟨[a, .string (bs f.S), b, c, d], 1, true⟩) = H5 at *
  have l2 := ld5 gB5 (Rp.len hg)
  obtain ⟨_, H6, c2, a', b', c', d', rfl, k6, o6⟩ := copyF_ok (Rp.up hg K5) gs
  have n6 : H5.n ≤ H6.n := k6.1
  have gB6 : H6.get H1.n = some ⟨ds, 1, true⟩ := by rw [k6.2 _ (by show H1.n < H5.n; omega)]; exact gB5
  have haG := all_one (s := bs g.S) o6.ha.oneC.1 o6.hb.oneC.1 o6.hc.oneC.1 o6.hd.oneC.1
  have st6 := st5 (ds := [a', .string (bs g.S), b', c', d']) gB6 (Rp.len hg) rfl haG
  have kv : Keep (But H6 H1.n) H6 (H6.upd H1.n (some ⟨[a', .string (bs g.S), b', c', d'], 1, true⟩)) := upd_butQ
  have gB7 : (H6.upd H1.n (some ⟨[a', .string (bs g.S), b', c', d'], 1, true⟩)).get H1.n = some ⟨[a', .string (bs g.S), b', c', d'], 1, true⟩ := upd_self
  have n7 : (H6.upd H1.n (some ⟨[a', .string (bs g.S), b', c', d'], 1, true⟩)).n = H6.n := upd_n
  have gA7 : (H6.upd H1.n (some ⟨[a', .string (bs g.S), b', c', d'], 1, true⟩)).get H.n = some ⟨[a, .string (bs f.S), b, c, d], 1, true⟩ := by rw [kv.2 _ ⟨by omega, by omega⟩, k6.2 _ (by show H.n < H5.n; omega)]; exact gA5
  have gP7 : (H6.upd H1.n (some ⟨[a', .string (bs g.S), b', c', d'], 1, true⟩)).get H2.n = some ⟨NOFILE, 1, true⟩ := by rw [kv.2 _ ⟨by omega, by omega⟩, k6.2 _ (by show H2.n < H5.n; omega)]; exact gP5
  have K7 : Keep (all H) H (H6.upd H1.n (some ⟨[a', .string (bs g.S), b', c', d'], 1, true⟩)) := (K5.tr k6).trans (kv.mono fun z hz => by have : z < H.n := hz; exact ⟨by omega, by omega⟩)
  have k47 : Keep (fun x => H3.n ≤ x ∧ x < H4.n) H4 (H6.upd H1.n (some ⟨[a', .string (bs g.S), b', c', d'], 1, true⟩)) := (ku.mono fun z hz => ⟨hz.2, by have := hz.1; omega⟩).trans ((k6.mono fun z hz => by have := hz.2; show z < H5.n; omega).trans (kv.mono fun z hz => ⟨by have := hz.2; omega, by have := hz.1; omega⟩))
  have hgq : Rp.rep (fun q => H5.n ≤ q ∧ q < H6.n) (H6.upd H1.n (some ⟨[a', .string (bs g.S), b', c', d'], 1, true⟩)) g [a', .string (bs g.S), b', c', d'] := Rp.keep o6.rep (kv.mono fun z hz => ⟨hz.2, by have := hz.1; omega⟩)
  generalize hH7 : H6.upd H1.n (some ⟨[a', .string (bs g.S), b', c', d'], 1, true⟩) = H7 at *
  have h4 : Four H H7 H2.n H.n a b c d f := o4.four k47 (by omega) ⟨by omega, by omega⟩ ⟨Nat.le_refl _, by omega⟩ (by omega) (by omega) gA7
  have hQ : ∀ z, ((H5.n ≤ z ∧ z < H6.n) ∨ z = H1.n) → z < H7.n ∧ ¬ Lf H.n H2.n H.n a b c d z := fun z hz => by
    refine ⟨by rcases hz with hz | hz <;> omega, fun e => ?_⟩
    have key : H3.n ≤ z ∧ z < H4.n → False := fun h => by rcases hz with hz | hz <;> omega
    rcases e with e | e | e | e | e | e | e
    · rcases hz with hz | hz <;> omega
    · rcases hz with hz | hz <;> omega
    · rcases hz with hz | hz <;> omega
    · exact key (o4.lt z (.inl e))
    · exact key (o4.lt z (.inr (.inl e)))
    · exact key (o4.lt z (.inr (.inr (.inl e))))
    · exact key (o4.lt z (.inr (.inr (.inr e))))
  have lS : ldC (ptr H.n 1) H7 = some (.string (bs f.S), H7) := Box.ld (R := fun _ => True) ⟨trivial, _, _, gA7⟩ rfl
  have lG : ldC (ptr H1.n 1) H7 = some (.string (bs g.S), H7) := Box.ld (R := fun _ => True) ⟨trivial, _, _, gB7⟩ rfl
  have fin : ∀ {v : Value} {H' : Heap}, Ev (fun n m => if f.S = [] then f13_J1 real (AC n) n (ptr H.n 0) (ptr H1.n 0) (ptr H2.n 0) (H7.upd H.n (some ⟨[a, .string (bs g.S), b, c, d], 1, true⟩)) else f13_J1 real (AC n) n (ptr H.n 0) (ptr H1.n 0) (ptr H2.n 0) H7) (v, H') → Cl 13 [.agg cs.toArray, .agg ds.toArray] H v H' := by
    intro v H' hE
    refine Ev.enter (fun n => f13_eq rfl n _ _ _) ?_
    simp only [f13, ruA, ruB, ruC, ruE, ruD, lenStr, Int.reduceBEq, Int.reduceBNe, n1, n2, n3, l1]
    refine Ev.callC c1 ?_
    simp only [ruA, ruB, ruC, ruE, ruD, lenStr, Int.reduceBEq, Int.reduceBNe, st4, hH5, l2]
    refine Ev.callC c2 ?_
    by_cases hS : f.S = []
    · have st8 : stV 1 (ptr H.n 1) (.string (bs g.S)) H7 = some (undef, H7.upd H.n (some ⟨[a, .string (bs g.S), b, c, d], 1, true⟩)) := stV1_box gA7 (by simp) rfl rfl
      simp only [ruA, ruB, ruC, ruE, ruD, lenStr, Int.reduceBEq, Int.reduceBNe, st6, hH7, lS, e_empty', decide_eq_true hS, lG, st8]
      simpa only [if_pos hS] using hE
    · simp only [ruA, ruB, ruC, ruE, ruD, lenStr, Int.reduceBEq, Int.reduceBNe, st6, hH7, lS, e_empty', decide_eq_false hS]
      simpa only [if_neg hS] using hE
  by_cases hS : f.S = []
  · obtain ⟨t1, t2, t3⟩ := h4.setS g.S
    have hQ' : ∀ z, ((H5.n ≤ z ∧ z < H6.n) ∨ z = H1.n) → z < (H7.upd H.n (some ⟨[a, .string (bs g.S), b, c, d], 1, true⟩)).n ∧ ¬ Lf H.n H2.n H.n a b c d z := hQ
    have kq : Keep (fun z => (H5.n ≤ z ∧ z < H6.n) ∨ z = H1.n) H7 (H7.upd H.n (some ⟨[a, .string (bs g.S), b, c, d], 1, true⟩)) := t3.mono fun z hz => ⟨(hQ z hz).1, fun e => by rcases hz with hz | hz <;> omega⟩
    obtain ⟨v, H', q1, q2, es, q3, q4⟩ := join_J1 t2 (by rw [t3.2 _ ⟨by omega, by omega⟩]; exact gP7) (by rw [kq.2 _ (.inr rfl)]; exact gB7) (Rp.keep hgq (kq.mono fun z hz => .inl hz)) hQ' { fs with } gs
    refine ⟨v, H', fin (by simp only [if_pos hS]; exact q1), (K7.trans (t3.mono fun z hz => by have : z < H.n := hz; exact ⟨by omega, by omega⟩)).trans q2, es, q3, ?_⟩
    simpa only [joinN, if_pos hS] using q4
  · obtain ⟨v, H', q1, q2, es, q3, q4⟩ := join_J1 h4 gP7 gB7 hgq hQ fs gs
    refine ⟨v, H', fin (by simp only [if_neg hS]; exact q1), K7.trans q2, es, q3, ?_⟩
    simpa only [joinN, if_neg hS] using q4
end Go.Eng
