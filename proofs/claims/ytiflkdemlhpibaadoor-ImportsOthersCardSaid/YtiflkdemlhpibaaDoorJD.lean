/- The walk's box; begin; what is written. -/
import Derived.Test.YtiflkdemlhpibaaDoorJC
set_option linter.unusedVariables false
set_option linter.unusedSimpArgs false
set_option linter.unusedSectionVars false
set_option maxRecDepth 100000
namespace Go.Eng
open Go Go.Proofs

abbrev BX (vf : Value) (M S n many : Nat) (vo : Value) (nm : List UInt8) : List Value := [vf, .map (some M), .slice (some ⟨S, 0, none⟩) n n, .int .i64 (many : Int), vo, .string (bs nm)]
theorem keepU {H0 H : Heap} {q : Nat} {y : Option Blk} (hK : Keep (all H0) H0 H) (hq : H0.n ≤ q) : Keep (all H0) H0 (H.upd q y) := hK.trans (Keep.upd fun h => by have : q < H0.n := h; omega)
/-- A walk under way. -/
structure Wk (H0 H : Heap) (B M S : Nat) (vf vo : Value) (l : List En) (s : Dfs) (nm : List UInt8) : Prop where
  keep : Keep (all H0) H0 H
  f : Sli (all H0) H0 l vf
  box : H.get B = some ⟨BX vf M S l.length s.many vo nm, 1, true⟩
  map : MapOk H M l
  st : H.get S = some ⟨NI s.st, 1, true⟩
  sl : s.st.length = l.length
  ord : Acc (all H0) H 1 vo s.ord.length (NI s.ord)
  lb : H0.n ≤ B ∧ B < H.n
  lm : H0.n ≤ M ∧ M < H.n
  ls : H0.n ≤ S ∧ S < H.n
  bm : B ≠ M
  bS : B ≠ S
  mS : M ≠ S
  ob : blkOf vo ≠ some B
  om : blkOf vo ≠ some M
  os : blkOf vo ≠ some S
section
variable {H0 H : Heap} {B M S : Nat} {vf vo : Value} {l : List En} {s : Dfs} {nm : List UInt8}
theorem Wk.files (h : Wk H0 H B M S vf vo l s nm) : Sli (all H0) H l vf := h.f.keep h.keep
theorem Wk.l0 (h : Wk H0 H B M S vf vo l s nm) : ldC (ptr B 0) H = some (vf, H) := own_ld h.box rfl
theorem Wk.l1 (h : Wk H0 H B M S vf vo l s nm) : ldC (ptr B 1) H = some (.map (some M), H) := own_ld h.box rfl
theorem Wk.l2 (h : Wk H0 H B M S vf vo l s nm) : ldC (ptr B 2) H = some (.slice (some ⟨S, 0, none⟩) l.length l.length, H) := own_ld h.box rfl
theorem Wk.l3 (h : Wk H0 H B M S vf vo l s nm) : ldC (ptr B 3) H = some (.int .i64 (s.many : Int), H) := own_ld h.box rfl
theorem Wk.l4 (h : Wk H0 H B M S vf vo l s nm) : ldC (ptr B 4) H = some (vo, H) := own_ld h.box rfl
theorem Wk.l5 (h : Wk H0 H B M S vf vo l s nm) : ldC (ptr B 5) H = some (.string (bs nm), H) := own_ld h.box rfl
theorem Wk.lk (h : Wk H0 H B M S vf vo l s nm) (p : List UInt8) : lkM .string (.int .i64 0) true (.map (some M)) (.string (bs p)) H = some (lkV (findN l p), H) := lk_ok h.map p
theorem Wk.stl (h : Wk H0 H B M S vf vo l s nm) {k v : Nat} (hk : s.st[k]? = some v) : ldC (ptr S k) H = some (.int .i64 (v : Int), H) := own_ld h.st (NI_at hk)
theorem Acc.past1 {q n : Nat} {x : Option Blk} {w : Value} {cs : List Value} (h : Acc (all H0) H 1 w n cs) (hq : blkOf w ≠ some q) : Acc (all H0) (H.upd q x) 1 w n cs := h.box hq upd_butQ
/-- A state is written. -/
theorem Wk.mark (h : Wk H0 H B M S vf vo l s nm) {i v : Nat} (hi : i < l.length) : ∃ H', stV 1 (ptr S i) (.int .i64 (v : Int)) H = some (undef, H') ∧ Wk H0 H' B M S vf vo l ⟨s.st.set i v, s.many, s.ord⟩ nm := by
  have e := stV1_box (k := i) (w := .int .i64 (v : Int)) h.st (by simp [h.sl]; exact hi) rfl rfl
  rw [NI_set] at e
  refine ⟨_, e, ?_⟩
  obtain ⟨es, c, m1, m2, m3⟩ := h.map
  exact ⟨keepU h.keep h.ls.1, h.f, by rw [upd_ne h.bS]; exact h.box, ⟨es, c, by rw [upd_ne h.mS]; exact m1, m2, m3⟩, upd_self, by simp [h.sl], h.ord.past1 h.os, h.lb, h.lm, h.ls, h.bm, h.bS, h.mS, h.ob, h.om, h.os⟩
/-- One more file. -/
theorem Wk.count (h : Wk H0 H B M S vf vo l s nm) {n : Nat} : ∃ H', stV 1 (ptr B 3) (.int .i64 (n : Int)) H = some (undef, H') ∧ Wk H0 H' B M S vf vo l ⟨s.st, n, s.ord⟩ nm := by
  have e := stV1_box (k := 3) (w := .int .i64 (n : Int)) h.box (by simp) rfl rfl
  refine ⟨_, e, ?_⟩
  obtain ⟨es, c, m1, m2, m3⟩ := h.map
  exact ⟨keepU h.keep h.lb.1, h.f, upd_self, ⟨es, c, by rw [upd_ne h.bm.symm]; exact m1, m2, m3⟩, by rw [upd_ne h.bS.symm]; exact h.st, h.sl, h.ord.past1 h.ob, h.lb, h.lm, h.ls, h.bm, h.bS, h.mS, h.ob, h.om, h.os⟩
/-- A name. -/
theorem Wk.name (h : Wk H0 H B M S vf vo l s nm) (p : List UInt8) : ∃ H', stV 1 (ptr B 5) (.string (bs p)) H = some (undef, H') ∧ Wk H0 H' B M S vf vo l s p := by
  have e := stV1_box (k := 5) (w := .string (bs p)) h.box (by simp) rfl rfl
  refine ⟨_, e, ?_⟩
  obtain ⟨es, c, m1, m2, m3⟩ := h.map
  exact ⟨keepU h.keep h.lb.1, h.f, upd_self, ⟨es, c, by rw [upd_ne h.bm.symm]; exact m1, m2, m3⟩, by rw [upd_ne h.bS.symm]; exact h.st, h.sl, h.ord.past1 h.ob, h.lb, h.lm, h.ls, h.bm, h.bS, h.mS, h.ob, h.om, h.os⟩
/-- A file is through. -/
theorem Wk.thru (h : Wk H0 H B M S vf vo l s nm) {i : Nat} (hi : i < l.length) (hb : s.ord.length ≤ 1000000) :
    ∃ vo' H1 H2 H3, Eng.app 1 8 vo (.slice (some ⟨H.n, 0, none⟩) 1 1) (H.push ⟨[.int .i64 (i : Int)], 1, true⟩) = some (vo', H1) ∧ sameBlk (H.push ⟨[.int .i64 (i : Int)], 1, true⟩) H1 (some B) = true ∧
      stV 1 (ptr S i) (.int .i64 2) H1 = some (undef, H2) ∧ stV 1 (ptr B 4) vo' H2 = some (undef, H3) ∧ Wk H0 H3 B M S vf vo' l ⟨s.st.set i 2, s.many, s.ord ++ [i]⟩ nm := by
  have hm : mostBytes = 140737488355328 := rfl
  have hp : Keep (all H) H (H.push ⟨[.int .i64 (i : Int)], 1, true⟩) := push_keep
  obtain ⟨vo', H1, g1, g2, g3, g4, g5, g6⟩ := (h.ord.keep hp).appQ (by_ := 8) (Nat.le_trans h.keep.1 hp.1) (addend_push (sz := 1) (n := 1) (cs := [.int .i64 (i : Int)]) rfl) rfl (by omega)
  have hB : B < H.n := h.lb.2
  have hM : M < H.n := h.lm.2
  have hS : S < H.n := h.ls.2
  have pB : (H.push ⟨[.int .i64 (i : Int)], 1, true⟩).get B = H.get B := push_lt hB
  have b1 : H1.get B = (H.push ⟨[.int .i64 (i : Int)], 1, true⟩).get B := g4.2 B ⟨Nat.lt_of_lt_of_le hB hp.1, h.ob⟩
  have m1 : H1.get M = H.get M := by rw [g4.2 M ⟨Nat.lt_of_lt_of_le hM hp.1, h.om⟩, push_lt hM]
  have s1 : H1.get S = H.get S := by rw [g4.2 S ⟨Nat.lt_of_lt_of_le hS hp.1, h.os⟩, push_lt hS]
  have n1 : H.n ≤ H1.n := Nat.le_trans hp.1 g4.1
  have nw : ∀ q, q < H.n → blkOf vo ≠ some q → blkOf vo' ≠ some q := fun q hq h1 h2 => by
    rcases g5 q h2 with h | h
    · exact h1 h
    · have := hp.1; omega
  have e1 := stV1_box (k := i) (w := .int .i64 2) (s1.trans h.st) (by simp [h.sl]; exact hi) rfl rfl
  have e2 : (H1.upd S (some ⟨(NI s.st).set i (.int .i64 2), 1, true⟩)).get B = some ⟨BX vf M S l.length s.many vo nm, 1, true⟩ := by rw [upd_ne h.bS, b1, pB]; exact h.box
  have e3 := stV1_box (k := 4) (w := vo') e2 (by simp) g2.oneC.2 g2.oneC.1
  refine ⟨vo', H1, _, _, g1, sameBlk_of fun c hc => by injection hc with hc; subst hc; exact b1, e1, e3, ?_⟩
  obtain ⟨es, c, q1, q2, q3⟩ := h.map
  have K : Keep (all H0) H0 H1 := (h.keep.trans (hp.mono fun b hb => Nat.lt_of_lt_of_le hb h.keep.1)).trans g3
  refine ⟨keepU (keepU K h.ls.1) h.lb.1, h.f, upd_self, ⟨es, c, by rw [upd_ne h.bm.symm, upd_ne h.mS, m1]; exact q1, q2, q3⟩, ?_, by simp [h.sl], ?_, ⟨h.lb.1, Nat.lt_of_lt_of_le hB n1⟩, ⟨h.lm.1, Nat.lt_of_lt_of_le hM n1⟩, ⟨h.ls.1, Nat.lt_of_lt_of_le hS n1⟩, h.bm, h.bS, h.mS, nw B hB h.ob, nw M hM h.om, nw S hS h.os⟩
  · rw [upd_ne h.bS.symm, upd_self]
    have : (NI s.st).set i (.int .i64 2) = NI (s.st.set i 2) := NI_set (v := 2)
    rw [this]
  · have : NI s.ord ++ [.int .i64 (i : Int)] = NI (s.ord ++ [i]) := by simp [NI]
    rw [this] at g2
    have e : s.ord.length + 1 = (s.ord ++ [i]).length := by simp
    rw [e] at g2
    exact (g2.past1 (nw S hS h.os)).past1 (nw B hB h.ob)
end
theorem bldW {H : Heap} {v w : Value} {M : Nat} (h1 : Eng.oneC v = true) (h2 : v.cells = #[v]) (h3 : w.cells = #[w]) : bld [.slice none 0 0, .map none, .slice none 0 0, .int .i64 0, .slice none 0 0, .string ⟨#[]⟩] [(0, 1, v), (1, 1, .map (some M)), (2, 1, w)] H = some (.agg #[v, .map (some M), w, .int .i64 0, .slice none 0 0, .string ⟨#[]⟩], H) := by
  have h4 : (Value.map (some M)).cells = #[.map (some M)] := rfl
  simp [bld, fillC, h2, h3, h4, splice]
/-- The map is filled. -/
theorem begin_loop {H0 : Heap} {B M S : Nat} {vf : Value} {l : List En} (hf : Sli (all H0) H0 l vf) (hn : l.length ≤ 1000000000000) (hBM : B ≠ M) (hMS : M ≠ S) (hM0 : H0.n ≤ M) : ∀ (k i : Nat) (H : Heap), i + k = l.length → Keep (all H0) H0 H → B < H.n → M < H.n → S < H.n → H.get B = some ⟨BX vf M S l.length 0 nilS [], 1, true⟩ → H.get S = some ⟨NI (List.replicate l.length 0), 1, true⟩ → MapI H M l i →
    ∃ H', Keep (all H0) H0 H' ∧ H.n ≤ H'.n ∧ H'.get B = some ⟨BX vf M S l.length 0 nilS [], 1, true⟩ ∧ H'.get S = some ⟨NI (List.replicate l.length 0), 1, true⟩ ∧ (Dist l → MapOk H' M l) ∧
      Ev (fun n m => f21_L0 real (AC n) n m vf (ptr B 0) vf (.int .i64 (l.length : Int)) (.int .i64 (i : Int)) H) (if Dist l then .tuple #[ptr B 0, .int .i64 0] else .tuple #[.pointer none, .int .i64 2], H') := by
  intro k
  induction k with
  | zero =>
    intro i H hi hk hB hM hS gB gS hm
    obtain rfl : i = l.length := by omega
    obtain ⟨n, h1, h2⟩ := hm.len
    have l1 : ldC (ptr B 1) H = some (.map (some M), H) := own_ld gB rfl
    rcases h2 with ⟨h2, h3⟩ | ⟨rfl, h3, h4⟩
    · refine ⟨H, hk, Nat.le_refl _, gB, gS, fun h => absurd h h3, ?_⟩
      rw [if_neg h3]
      refine Ev.step (fun n m => f21_L0.eq_2 _ _ _ _ _ _ _ _ _ _) ?_
      simp only [ruA, ruB, ruC, ruE, ruD, lenStr, Int.reduceBEq, Int.reduceBNe, idx_ge (Nat.le_refl l.length), l1, h1, hf.lenS, idx_lt h2]
      exact Ev.pure _
    · refine ⟨H, hk, Nat.le_refl _, gB, gS, fun _ => h4, ?_⟩
      rw [if_pos h3]
      refine Ev.step (fun n m => f21_L0.eq_2 _ _ _ _ _ _ _ _ _ _) ?_
      simp only [ruA, ruB, ruC, ruE, ruD, lenStr, Int.reduceBEq, Int.reduceBNe, idx_ge (Nat.le_refl l.length), l1, h1, hf.lenS]
      exact Ev.pure _
  | succ k ih =>
    intro i H hi hk hB hM hS gB gS hm
    obtain ⟨e, he⟩ : ∃ e, l[i]? = some e := ⟨_, List.getElem?_eq_getElem (by omega)⟩
    obtain ⟨b, o, w, a1, _, _, _, a4, a5⟩ := en_at (hf.keep hk) he
    obtain ⟨e1, e2, e3, e4, e5⟩ := el_box (H := H) (a := .string (bs e.P)) (b := w) (u := .string ⟨#[]⟩) (v := .slice none 0 0) rfl a4.oneC.1 rfl rfl
    generalize hH1 : H.push ⟨[.string (bs e.P), w], 1, true⟩ = H1 at *
    have gB1 : H1.get B = some ⟨BX vf M S l.length 0 nilS [], 1, true⟩ := by rw [e3.2 B hB]; exact gB
    have gS1 : H1.get S = some ⟨NI (List.replicate l.length 0), 1, true⟩ := by rw [e3.2 S hS]; exact gS
    have hm1 : MapI H1 M l i := by obtain ⟨es, c, q1, q2⟩ := hm; exact ⟨es, c, by rw [e3.2 M hM]; exact q1, q2⟩
    obtain ⟨x, u1, u2⟩ := up_ok hm1 he
    have l1 : ldC (ptr B 1) H1 = some (.map (some M), H1) := own_ld gB1 rfl
    have l2 : ldC (ptr H.n 0) H1 = some (.string (bs e.P), H1) := own_ld e4 rfl
    have K1 : Keep (all H0) H0 H1 := hk.trans (e3.mono fun q hq => Nat.lt_of_lt_of_le hq hk.1)
    obtain ⟨H', r1, r2, r3, r4, r5, r6⟩ := ih (i + 1) (H1.upd M x) (by omega) (keepU K1 hM0) (by rw [upd_n, e5]; omega) (by rw [upd_n, e5]; omega) (by rw [upd_n, e5]; omega) (by rw [upd_ne hBM]; exact gB1) (by rw [upd_ne hMS.symm]; exact gS1) u2
    refine ⟨H', r1, by rw [upd_n, e5] at r2; omega, r3, r4, r5, ?_⟩
    refine Ev.step (fun n m => f21_L0.eq_2 _ _ _ _ _ _ _ _ _ _) ?_
    simp only [ruA, ruB, ruC, ruE, ruD, lenStr, Int.reduceBEq, Int.reduceBNe, idx_lt (show i < l.length by omega), a1, a5, e1, e2, l1, l2, keyB_str, u1, idx_up (show i < 9223372036854775807 by omega)]
    exact r6
/-- A walk begins. -/
theorem begin_ok {H0 : Heap} {vf : Value} {l : List En} (hf : Sli (all H0) H0 l vf) (hn : l.length ≤ 1000000000000) :
    ∃ H', Keep (all H0) H0 H' ∧ (mayN l ≠ 0 → Cl 21 [vf] H0 (.tuple #[.pointer none, .int .i64 (mayN l)]) H') ∧
      (mayN l = 0 → ∃ B M S, Cl 21 [vf] H0 (.tuple #[ptr B 0, .int .i64 0]) H' ∧ Wk H0 H' B M S vf nilS l (dfs0 l) []) := by
  by_cases hb : 1000 < l.length
  · have e : decide ((l.length : Int) > 1000) = true := by simp; omega
    refine ⟨H0, Keep.refl _ _, fun _ => ?_, fun h => ?_⟩
    · refine Ev.enter (fun n => f21_eq rfl n _ _) ?_
      simp only [f21, ruA, ruB, ruC, ruE, ruD, lenStr, Int.reduceBEq, Int.reduceBNe, hf.lenS, e, mayN, if_pos hb]
      exact Ev.pure _
    · simp only [mayN, if_pos hb] at h; cases h
  · have e : decide ((l.length : Int) > 1000) = false := by simp; omega
    have k1 : Keep (all H0) H0 (H0.push (obj (.map [] 0))) := push_keep
    have g1 : (H0.push (obj (.map [] 0))).get H0.n = some (obj (.map [] 0)) := push_self
    have n1 : (H0.push (obj (.map [] 0))).n = H0.n + 1 := push_n
    have c1 : mkM H0 = some (.map (some H0.n), H0.push (obj (.map [] 0))) := rfl
    generalize H0.push (obj (.map [] 0)) = H1 at *
    have c2 := mkI_ok (N := l.length) hn (H := H1)
    have k2 : Keep (all H1) H1 (H1.push ⟨NI (List.replicate l.length 0), 1, true⟩) := push_keep
    have g2 : (H1.push ⟨NI (List.replicate l.length 0), 1, true⟩).get H1.n = some ⟨NI (List.replicate l.length 0), 1, true⟩ := push_self
    have n2 : (H1.push ⟨NI (List.replicate l.length 0), 1, true⟩).n = H1.n + 1 := push_n
    generalize H1.push ⟨NI (List.replicate l.length 0), 1, true⟩ = H2 at *
    have hv : Eng.oneC vf = true ∧ vf.cells = #[vf] := by obtain ⟨cs, q, _⟩ := hf; exact q.oneC
    have c3 := bldW (H := H2) (v := vf) (w := .slice (some ⟨H1.n, 0, none⟩) l.length l.length) (M := H0.n) hv.1 hv.2 rfl
    have c4 : newV (Value.cells (.agg #[vf, .map (some H0.n), .slice (some ⟨H1.n, 0, none⟩) l.length l.length, .int .i64 0, .slice none 0 0, .string ⟨#[]⟩])).toList H2 = some (ptr H2.n 0, H2.push ⟨BX vf H0.n H1.n l.length 0 nilS [], 1, true⟩) := newA (cs := BX vf H0.n H1.n l.length 0 nilS []) (by simp only [List.all_cons, hv.1]; rfl)
    have k3 : Keep (all H2) H2 (H2.push ⟨BX vf H0.n H1.n l.length 0 nilS [], 1, true⟩) := push_keep
    have g3 : (H2.push ⟨BX vf H0.n H1.n l.length 0 nilS [], 1, true⟩).get H2.n = some ⟨BX vf H0.n H1.n l.length 0 nilS [], 1, true⟩ := push_self
    have n3 : (H2.push ⟨BX vf H0.n H1.n l.length 0 nilS [], 1, true⟩).n = H2.n + 1 := push_n
    generalize H2.push ⟨BX vf H0.n H1.n l.length 0 nilS [], 1, true⟩ = H3 at *
    have K : Keep (all H0) H0 H3 := (k1.tr k2).tr k3
    have m3 : MapI H3 H0.n l 0 := ⟨[], 0, by rw [k3.2 _ (by show H0.n < H2.n; omega), k2.2 _ (by show H0.n < H1.n; omega)]; exact g1, .inl ⟨by rw [List.take_zero]; exact List.nodup_nil, by simp [keysN], by simp⟩⟩
    obtain ⟨H', r1, r2, r3, r4, r5, r6⟩ := begin_loop hf hn (B := H2.n) (M := H0.n) (S := H1.n) (by omega) (by omega) (Nat.le_refl _) l.length 0 H3 (by omega) K (by omega) (by omega) (by omega) g3 (by rw [k3.2 _ (by show H1.n < H2.n; omega)]; exact g2) m3
    have r6 := r6.loop
    have main : Cl 21 [vf] H0 (if Dist l then .tuple #[ptr H2.n 0, .int .i64 0] else .tuple #[.pointer none, .int .i64 2]) H' := by
      refine Ev.enter (fun n => f21_eq rfl n _ _) ?_
      simp only [f21, ruA, ruB, ruC, ruE, ruD, lenStr, Int.reduceBEq, Int.reduceBNe, hf.lenS, e, c1, c2, c3, c4]
      exact r6
    refine ⟨H', r1, fun h => ?_, fun h => ?_⟩
    · have hd : ¬ Dist l := fun hd => h (by simp only [mayN, if_neg hb, if_pos hd])
      simp only [mayN, if_neg hb, if_neg hd] at main ⊢
      exact main
    · have hd : Dist l := by
        by_cases hd : Dist l
        · exact hd
        · simp only [mayN, if_neg hb, if_neg hd] at h; cases h
      rw [if_pos hd] at main
      exact ⟨H2.n, H0.n, H1.n, main, ⟨r1, hf, r3, r5 hd, r4, by simp [dfs0], Acc.nil, ⟨by omega, by omega⟩, ⟨by omega, by omega⟩, ⟨by omega, by omega⟩, by omega, by omega, by omega, by simp [blkOf], by simp [blkOf], by simp [blkOf]⟩⟩
end Go.Eng
