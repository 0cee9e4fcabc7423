import Derived.Test.YtimhmmeoliagjaaDoorYW
set_option linter.unusedVariables false
set_option linter.unusedSimpArgs false
set_option linter.unusedSectionVars false
set_option maxRecDepth 100000
namespace Go.Eng
open Go Go.Proofs

theorem strOf_U (l : List UInt8) : strOf (U l) = bs l := by
  show (⟨((l.map UInt8.toNat).map UInt8.ofNat).toArray⟩ : ByteArray) = ⟨l.toArray⟩
  rw [List.map_map]
  congr 2
  conv => rhs; rw [← List.map_id l]
  apply List.map_congr_left
  intro x _
  simp
theorem nilbox {H : Heap} : newV [(.slice none 0 0)] H = some (ptr H.n 0, H.push ⟨[.slice none 0 0], 1, true⟩) := newV_box rfl
theorem of_ok {H : Heap} (hG : G9 H) {T : List UInt8} {t : Rx} (hp : parseR (U T) = .ok t) : ∃ v H', ClX 34 [.string (bs T)] H (.agg #[v]) H' ∧ Tv H' v t ∧ Keep (all H) H H' := by
  obtain ⟨H1, hH1⟩ : ∃ H1, H.push ⟨[.slice none 0 0], 1, true⟩ = H1 := ⟨_, rfl⟩
  have n1 : H1.n = H.n + 1 := by rw [← hH1]; rfl
  have k1 : Keep (all H) H H1 := by rw [← hH1]; exact push_keep
  have g1 : H1.get H.n = some ⟨[.slice none 0 0], 1, true⟩ := by rw [← hH1]; exact push_self
  obtain ⟨v, H2, c2, k2, _, h2⟩ := parse_cl (E := EX) EX_parse (hG.keep k1).lt T
  rw [hp] at h2
  obtain ⟨vl, rfl, hA⟩ := h2
  have ow := hA.oneC
  obtain ⟨H3, hH3⟩ : ∃ H3, H2.push ⟨[.slice none 0 0], 1, true⟩ = H3 := ⟨_, rfl⟩
  have n3 : H3.n = H2.n + 1 := by rw [← hH3]; rfl
  have k3 : Keep (all H2) H2 H3 := by rw [← hH3]; exact push_keep
  have hn2 := k2.1
  have g3 : H3.get H2.n = some ⟨[.slice none 0 0], 1, true⟩ := by rw [← hH3]; exact push_self
  obtain ⟨H4, s4, l4, k4⟩ := wrap_end g3 ow.2 ow.1
  have hn4 := k4.1
  have g4 : H4.get H.n = some ⟨[.slice none 0 0], 1, true⟩ := by
    rw [k4.2 _ ⟨by omega, by omega⟩, k3.2 _ (show H.n < H2.n by omega), k2.2 _ (show H.n < H1.n by omega)]; exact g1
  obtain ⟨H5, s5, l5, k5⟩ := wrap_end g4 ow.2 ow.1
  have hn5 := k5.1
  have hne : ∀ q, q < H1.n ∨ H2.n ≤ q → blkOf vl ≠ some q := fun q hq => by
    rcases hA with ⟨rfl, _⟩ | ⟨b, rfl, hb, hb2, _⟩
    · simp [blkOf]
    · intro he
      simp only [blkOf, Option.some.injEq] at he
      subst he
      rcases hq with hq | hq
      · exact hb hq
      · omega
  have t2 : Tv H2 vl t := hA.sl
  have t3 := t2.keep k3
  have t4 : Tv H4 vl t := ((Sl.apart t3 (hne _ (.inr (Nat.le_refl _)))).keep (k4.mono fun b hb => ⟨hb.1, hb.2⟩)).mono fun b hb => Nat.lt_of_lt_of_le hb.1 hn4
  have t5 : Tv H5 vl t := ((Sl.apart t4 (hne _ (.inl (by omega)))).keep (k5.mono fun b hb => ⟨hb.1, hb.2⟩)).mono fun b hb => Nat.lt_of_lt_of_le hb.1 hn5
  refine ⟨vl, H5, Ev.enter (fun n => f34_eq rfl n _ _) ?_, t5, ?_⟩
  · have nb : newV [(.slice none 0 0)] H = some (ptr H.n 0, H1) := by rw [nilbox, hH1]
    have nb2 : newV [(.slice none 0 0)] H2 = some (ptr H2.n 0, H3) := by rw [nilbox, hH3]
    simp only [f34, ruA, ruB, ruC, ruE, ruD, lenStr, Int.reduceBEq, Int.reduceBNe, nb]
    refine Ev.callC c2 ?_
    simp only [ruA, ruB, ruC, ruE, ruD, lenStr, Int.reduceBEq, Int.reduceBNe, nb2, s4, l4, s5, l5, Option.map_some, resM1, one1]
    exact Ev.pure _
  · exact ((((k1.trans (k2.mono (upA k1))).trans (k3.mono (upA (k1.trans (k2.mono (upA k1))))))).trans (k4.mono fun b hb => by have hb' : b < H.n := hb; exact ⟨by omega, by omega⟩)).trans (k5.mono fun b hb => by have hb' : b < H.n := hb; exact ⟨by omega, by omega⟩)
theorem takesR_ok {H : Heap} {v vt : Value} {t : Rx} {T : List Nat} (ht : t.size ≤ 256) (hs : Tv H v t) (hT : Sl (all H) H 1 vt T.length (B T)) (hTb : ∀ c ∈ T, c < 256) (hTl : T.length < 4611686018427387904) :
    ∃ H', ClX 20 [.agg #[v], vt] H (if 8192 < T.length then .tuple #[.bool false, .int .i64 5] else .tuple #[.bool (takesN (t.flat 0) T), .int .i64 0]) H' ∧ Keep (all H) H H' := by
  have hl : (t.flat 0).length = t.size := Rx.flat_len t 0
  exact takesT_ok (chk_flat ht) (okW_flat (by omega)) (by rw [hl]; exact hs) hT hTb hTl
theorem takes2_ok {H : Heap} (hG : G9 H) {T S : List UInt8} {t : Rx} (hp : parseR (U T) = .ok t) (ht : t.size ≤ 256) (hS : S.length ≤ 8192) : ∃ H', ClX 27 [.string (bs T), .string (bs S)] H (.bool (takesN (t.flat 0) (U S))) H' ∧ Keep (all H) H H' := by
  obtain ⟨v, H1, c1, t1, k1⟩ := of_ok hG hp
  obtain ⟨H2, hH2⟩ : ∃ H2, H1.push ⟨B (U S), 1, true⟩ = H2 := ⟨_, rfl⟩
  have k2 : Keep (all H1) H1 H2 := by rw [← hH2]; exact push_keep
  have k12 := k1.trans (k2.mono (upA k1))
  have hmb : mostBytes = 140737488355328 := rfl
  have of2 : ofStr (.string (bs S)) H1 = some (.slice (some ⟨H1.n, 0, none⟩) (U S).length (U S).length, H2) := by rw [ofStr_ok (by omega), hH2]
  have sS : Sl (all H2) H2 1 (.slice (some ⟨H1.n, 0, none⟩) (U S).length (U S).length) (U S).length (B (U S)) := by
    rw [← hH2]
    exact .inr (.inr ⟨H1.n, 0, none, _, _, rfl, by simp [all, push_n], push_self, by simp [B], Nat.le_refl _, by simp only [cut, List.drop_zero]; rw [List.take_of_length_le (by simp [B])]⟩)
  obtain ⟨H3, c3, k3⟩ := takesR_ok ht (t1.keep k2) sS (U_byte S) (by rw [U_len]; omega)
  rw [if_neg (by rw [U_len]; omega)] at c3
  refine ⟨H3, Ev.enter (fun n => f27_eq rfl n _ _ _) ?_, k12.trans (k3.mono (upA k12))⟩
  simp only [f27, ruA]
  refine Ev.callC c1 ?_
  simp only [ruA, ruB, ruC, ruE, ruD, lenStr, Int.reduceBEq, Int.reduceBNe, of2]
  refine Ev.callC c3 ?_
  simp only [ruA, ruB, ruC, ruE, ruD, lenStr, Int.reduceBEq, Int.reduceBNe]
  exact Ev.pure _
theorem fails_ok {H : Heap} (hG : G9 H) {T : List UInt8} {k : Nat} (hp : parseR (U T) = .bad k) : ∃ H', ClX 28 [.string (bs T), .int .i64 (k : Int)] H (.bool true) H' ∧ Keep (all H) H H' := by
  obtain ⟨v, H2, c2, k2, _, h2⟩ := parse_cl (E := EX) EX_parse hG.lt T
  rw [hp] at h2
  subst h2
  obtain ⟨H3, hH3⟩ : ∃ H3, H2.push ⟨[.slice none 0 0], 1, true⟩ = H3 := ⟨_, rfl⟩
  have n3 : H3.n = H2.n + 1 := by rw [← hH3]; rfl
  have k3 : Keep (all H2) H2 H3 := by rw [← hH3]; exact push_keep
  have hn2 := k2.1
  have g3 : H3.get H2.n = some ⟨[.slice none 0 0], 1, true⟩ := by rw [← hH3]; exact push_self
  have s4 : stV 1 (ptr H2.n 0) (.agg #[nilS]) H3 = some (undef, H3.upd H2.n (some ⟨[nilS], 1, true⟩)) := stG (ds := [nilS]) g3 rfl rfl rfl
  have l4 : ldC (ptr H2.n 0) (H3.upd H2.n (some ⟨[nilS], 1, true⟩)) = some (nilS, H3.upd H2.n (some ⟨[nilS], 1, true⟩)) := ldG upd_self rfl
  have ln : lenS nilS = some (.int .i64 0) := rfl
  refine ⟨H3.upd H2.n (some ⟨[nilS], 1, true⟩), Ev.enter (fun n => f28_eq rfl n _ _ _) ?_, (k2.trans (k3.mono (upA k2))).trans (Keep.upd fun hb => by have hb' : H2.n < H.n := hb; omega)⟩
  have nb2 : newV [(.slice none 0 0)] H2 = some (ptr H2.n 0, H3) := by rw [nilbox, hH3]
  have e : ((k : Int) == (k : Int)) = true := by simp
  simp only [f28, ruA, ruB, ruC, ruE, ruD, lenStr, Int.reduceBEq, Int.reduceBNe]
  refine Ev.callC c2 ?_
  simp only [ruA, ruB, ruC, ruE, ruD, lenStr, Int.reduceBEq, Int.reduceBNe, nb2, s4, e, l4, ln]
  exact Ev.pure _
theorem prints_ok {H : Heap} (hG : G9 H) {v : Value} {t : Rx} (ht : t.size ≤ 256) (hv : Tv H v t) {T : List UInt8} (hp : prT t = U T) (hl : T.length ≤ 1024) : ∃ H', ClX 29 [.agg #[v], .string (bs T)] H (.bool true) H' ∧ Keep (all H) H H' := by
  obtain ⟨cv, ov⟩ := slc_cells hv
  obtain ⟨H1, hH1⟩ : ∃ H1, H.push ⟨[v], 1, true⟩ = H1 := ⟨_, rfl⟩
  have k1 : Keep (all H) H H1 := by rw [← hH1]; exact push_keep
  have g1 : H1.get H.n = some ⟨[v], 1, true⟩ := by rw [← hH1]; exact push_self
  have nv : newV (Value.cells (.agg #[v])).toList H = some (ptr H.n 0, H1) := by rw [← hH1]; exact newA (cs := [v]) (by simp [ov])
  have la : ldA 1 (ptr H.n 0) H1 = some (.agg #[v], H1) := ldAG (cs := [v]) g1 rfl
  obtain ⟨H2, c2, k2⟩ := print_ok ht (chk_flat ht) (hv.keep k1) (hG.keep k1)
  rw [hp, if_neg (by rw [U_len]; omega), strOf_U] at c2
  refine ⟨H2, Ev.enter (fun n => f29_eq rfl n _ _ _) ?_, k1.trans (k2.mono (upA k1))⟩
  have e : ((bs T).toList == (bs T).toList) = true := by simp
  simp only [f29, ruA, ruB, ruC, ruE, ruD, lenStr, Int.reduceBEq, Int.reduceBNe, nv, la]
  refine Ev.callC c2 ?_
  simp only [ruA, ruB, ruC, ruE, ruD, lenStr, Int.reduceBEq, Int.reduceBNe, e]
  exact Ev.pure _
theorem nil_ok {H : Heap} {v : Value} {t : Rx} (ht : t.size ≤ 256) (hv : Tv H v t) : ∃ H', ClX 14 [.agg #[v]] H (.tuple #[.bool (takesN (t.flat 0) []), .int .i64 0]) H' ∧ Keep (all H) H H' := by
  obtain ⟨cv, ov⟩ := slc_cells hv
  obtain ⟨H1, hH1⟩ : ∃ H1, H.push ⟨[v], 1, true⟩ = H1 := ⟨_, rfl⟩
  have k1 : Keep (all H) H H1 := by rw [← hH1]; exact push_keep
  have g1 : H1.get H.n = some ⟨[v], 1, true⟩ := by rw [← hH1]; exact push_self
  have nv : newV (Value.cells (.agg #[v])).toList H = some (ptr H.n 0, H1) := by rw [← hH1]; exact newA (cs := [v]) (by simp [ov])
  have la : ldA 1 (ptr H.n 0) H1 = some (.agg #[v], H1) := ldAG (cs := [v]) g1 rfl
  obtain ⟨H2, c2, k2⟩ := takesR_ok (T := []) (vt := .slice none 0 0) ht (hv.keep k1) Sl.nil (by simp) (by simp)
  rw [if_neg (by simp)] at c2
  refine ⟨H2, Ev.enter (fun n => f14_eq rfl n _ _) ?_, k1.trans (k2.mono (upA k1))⟩
  simp only [f14, ruA, ruB, ruC, ruE, ruD, lenStr, Int.reduceBEq, Int.reduceBNe, nv, la]
  refine Ev.callC c2 ?_
  simp only [ruA, ruB, ruC, ruE, ruD, lenStr, Int.reduceBEq, Int.reduceBNe]
  exact Ev.pure _
theorem of1_ok {H : Heap} {c : Nat} (hc : c < 256) : ∃ H1 H2, bldS 1 1 [.int .u8 0] [(0, 1, .int .u8 (c : Int))] H = some (.slice (some ⟨H.n, 0, none⟩) 1 1, H1) ∧ ClX 32 [.slice (some ⟨H.n, 0, none⟩) 1 1] H1 (.agg (SC (ofS [c])).toArray) H2 ∧ Keep (all H) H H2 := by
  obtain ⟨H1, hH1⟩ : ∃ H1, H.push ⟨[.int .u8 (c : Int)], 1, true⟩ = H1 := ⟨_, rfl⟩
  have k1 : Keep (all H) H H1 := by rw [← hH1]; exact push_keep
  have sl : Sl (all H1) H1 1 (.slice (some ⟨H.n, 0, none⟩) 1 1) [c].length (B [c]) := by
    rw [← hH1]
    exact .inr (.inr ⟨H.n, 0, none, 1, _, rfl, by simp [all, push_n], push_self, by simp, Nat.le_refl _, rfl⟩)
  obtain ⟨H2, c2, k2⟩ := sof_ok (E := EX) rfl sl (by simpa using hc) (by simp)
  exact ⟨H1, H2, by rw [← hH1]; exact to1, c2, k1.trans (k2.mono (upA k1))⟩
def exA : Rx := .set (ofS [97])
def exB : Rx := .set (ofS [98])
def exAB : Rx := .seq exA (.star exB)
theorem ex1 : parseR [97, 98, 42] = .ok exAB := by kernel_rfl
theorem ex2 : takesN (exAB.flat 0) [97, 98, 98] = true := by decide +kernel
theorem ex3 : takesN (exAB.flat 0) [98, 97] = false := by decide +kernel
theorem ex4 : takesN (exAB.flat 0) [] = false := by decide +kernel
theorem ex5 : parseR [97, 124] = .ok (.alt exA .nil) := by kernel_rfl
theorem ex6 : parseR [40, 97] = .bad 2 := by kernel_rfl
theorem ex7 : parseR [97, 124, 42] = .bad 2 := by kernel_rfl
theorem ex8 : parseR [91, 98, 45, 97, 93] = .bad 3 := by kernel_rfl
theorem ex9 : parseR [91, 93] = .bad 1 := by kernel_rfl
theorem ex10 : prT (.star (.seq exA exB)) = [40, 97, 98, 41, 42] := by decide +kernel
theorem ex11 : prT (.set (ofS [97, 98, 99, 120])) = [91, 97, 45, 99, 120, 93] := by decide +kernel
theorem ex12 : prT (.set (spanS 0 255)) = [91, 92, 120, 48, 48, 45, 92, 120, 102, 102, 93] := by decide +kernel
end Go.Eng

set_option linter.unusedVariables false
set_option linter.unusedSimpArgs false
set_option linter.unusedSectionVars false
set_option maxRecDepth 100000
namespace Go.Eng
open Go Go.Proofs

theorem nd_set' {H : Heap} {s : Nat} : bld [(.int .i64 0), (.int .u64 0), (.int .u64 0), (.int .u64 0), (.int .u64 0), (.int .i64 0), (.int .i64 0)] [(0, 1, (.int .i64 2)), (1, 4, .agg (SC s).toArray)] H = some (.agg (ND ⟨2, s, 0, 0⟩).toArray, H) := nd_set
theorem four_nd {H : Heap} {a b c d : Nd} : bldS 7 4 [(.int .i64 0), (.int .u64 0), (.int .u64 0), (.int .u64 0), (.int .u64 0), (.int .i64 0), (.int .i64 0)] [(0, 7, .agg (ND a).toArray), (7, 7, .agg (ND b).toArray), (14, 7, .agg (ND c).toArray), (21, 7, .agg (ND d).toArray)] H =
    some (.slice (some ⟨H.n, 0, none⟩) 4 4, H.push ⟨NDS [a, b, c, d], 7, true⟩) := rfl
theorem exAB_flat : exAB.flat 0 = [⟨2, ofS [97], 0, 0⟩, ⟨2, ofS [98], 0, 0⟩, ⟨5, 0, 1, 0⟩, ⟨3, 0, 0, 2⟩] := rfl
theorem same_tree {H : Heap} {va vb : Value} {t : Rx} (ht : t.size ≤ 1000000) (ha : Tv H va t) (hb : Tv H vb t) : ∃ H', ClX 18 [.agg #[va], .agg #[vb]] H (.bool true) H' ∧ Keep (all H) H H' := by
  have hl : (t.flat 0).length = t.size := Rx.flat_len t 0
  obtain ⟨H', c, k⟩ := same_ok (l1 := t.flat 0) (l2 := t.flat 0) (by rw [hl]; exact ha) (by rw [hl]; exact hb) (flat_ok ht) (flat_ok ht) (by omega) (by omega)
  rw [sameB_self] at c
  exact ⟨H', c, k⟩
theorem of4_ok {H : Heap} : ∃ H1 H2, bldS 1 4 [.int .u8 0] [(0, 1, .int .u8 97), (1, 1, .int .u8 98), (2, 1, .int .u8 99), (3, 1, .int .u8 120)] H = some (.slice (some ⟨H.n, 0, none⟩) 4 4, H1) ∧ ClX 32 [.slice (some ⟨H.n, 0, none⟩) 4 4] H1 (.agg (SC (ofS [97, 98, 99, 120])).toArray) H2 ∧ Keep (all H) H H2 := by
  obtain ⟨H1, hH1⟩ : ∃ H1, H.push ⟨B [97, 98, 99, 120], 1, true⟩ = H1 := ⟨_, rfl⟩
  have k1 : Keep (all H) H H1 := by rw [← hH1]; exact push_keep
  have sl : Sl (all H1) H1 1 (.slice (some ⟨H.n, 0, none⟩) 4 4) [97, 98, 99, 120].length (B [97, 98, 99, 120]) := by
    rw [← hH1]
    exact .inr (.inr ⟨H.n, 0, none, 4, _, rfl, by simp [all, push_n], push_self, by simp [B], Nat.le_refl _, rfl⟩)
  obtain ⟨H2, c2, k2⟩ := sof_ok (E := EX) rfl sl (by simp) (by simp)
  exact ⟨H1, H2, by rw [← hH1]; rfl, c2, k1.trans (k2.mono (upA k1))⟩
theorem works_ok {H : Heap} (hG : G9 H) : ∃ H', ClX 19 [] H (.bool true) H' ∧ Keep (all H) H H' := by
  obtain ⟨B1, A1, b1, c1, k1⟩ := of1_ok (H := H) (c := 97) (by decide)
  obtain ⟨va, A2, c2, t2, k2'⟩ := one_ok (ofS [97]) A1
  have k2 := k1.trans (k2'.mono (upA k1))
  obtain ⟨B3, A3, b3, c3, k3'⟩ := of1_ok (H := A2) (c := 98) (by decide)
  have k3 := k2.trans (k3'.mono (upA k2))
  obtain ⟨vb, A4, c4, t4, k4'⟩ := one_ok (ofS [98]) A3
  have k4 := k3.trans (k4'.mono (upA k3))
  have ta4 : Tv A4 va exA := (t2.keep k3').keep k4'
  obtain ⟨ca, oa⟩ := slc_cells ta4
  obtain ⟨cb, ob⟩ := slc_cells t4
  obtain ⟨A5, hA5⟩ : ∃ A5, A4.push ⟨[.slice none 0 0], 1, true⟩ = A5 := ⟨_, rfl⟩
  obtain ⟨A6, hA6⟩ : ∃ A6, A5.push ⟨[.slice none 0 0], 1, true⟩ = A6 := ⟨_, rfl⟩
  obtain ⟨A7, hA7⟩ : ∃ A7, A6.upd A4.n (some ⟨[va], 1, true⟩) = A7 := ⟨_, rfl⟩
  obtain ⟨A8, hA8⟩ : ∃ A8, A7.upd A5.n (some ⟨[vb], 1, true⟩) = A8 := ⟨_, rfl⟩
  have n5 : A5.n = A4.n + 1 := by rw [← hA5]; rfl
  have n6 : A6.n = A4.n + 2 := by rw [← hA6, push_n, n5]
  have n7 : A7.n = A4.n + 2 := by rw [← hA7, upd_n, n6]
  have n8 : A8.n = A4.n + 2 := by rw [← hA8, upd_n, n7]
  have m5 : newV [(.slice none 0 0)] A4 = some (ptr A4.n 0, A5) := by rw [nilbox, hA5]
  have m6 : newV [(.slice none 0 0)] A5 = some (ptr A5.n 0, A6) := by rw [nilbox, hA6]
  have k5 : Keep (all A4) A4 A5 := by rw [← hA5]; exact push_keep
  have k6 : Keep (all A5) A5 A6 := by rw [← hA6]; exact push_keep
  have g5 : A6.get A4.n = some ⟨[.slice none 0 0], 1, true⟩ := by rw [k6.2 _ (show A4.n < A5.n by omega), ← hA5]; exact push_self
  have g6 : A6.get A5.n = some ⟨[.slice none 0 0], 1, true⟩ := by rw [← hA6]; exact push_self
  have s7 : stV 1 (ptr A4.n 0) (.agg #[va]) A6 = some (undef, A7) := by rw [← hA7]; exact stG (ds := [va]) g5 rfl rfl (by simp [oa])
  have s8 : stV 1 (ptr A5.n 0) (.agg #[vb]) A7 = some (undef, A8) := by rw [← hA8]; exact stG (ds := [vb]) (by rw [← hA7, upd_ne (by omega)]; exact g6) rfl rfl (by simp [ob])
  have k48 : Keep (all A4) A4 A8 := by
    refine ((k5.trans (k6.mono (upA k5))).trans ?_).trans ?_ (b := A7)
    · rw [← hA7]; exact Keep.upd fun hb => by have hb' : A4.n < A4.n := hb; omega
    · rw [← hA8]; exact Keep.upd fun hb => by have hb' : A5.n < A4.n := hb; omega
  have g1 : A8.get A4.n = some ⟨[va], 1, true⟩ := by rw [← hA8, upd_ne (by omega), ← hA7]; exact upd_self
  have g2 : A8.get A5.n = some ⟨[vb], 1, true⟩ := by rw [← hA8]; exact upd_self
  have k8 := k4.trans (k48.mono (upA k4))
  obtain ⟨B9, A9, b9, c9, k9⟩ := of1_ok (H := A8) (c := 97) (by decide)
  obtain ⟨B10, A10, b10, c10, k10⟩ := of1_ok (H := A9) (c := 98) (by decide)
  obtain ⟨A11, hA11⟩ : ∃ A11, A10.push ⟨NDS [⟨2, ofS [97], 0, 0⟩, ⟨2, ofS [98], 0, 0⟩, ⟨5, 0, 1, 0⟩, ⟨3, 0, 0, 2⟩], 7, true⟩ = A11 := ⟨_, rfl⟩
  obtain ⟨A12, hA12⟩ : ∃ A12, A11.push ⟨[.slice none 0 0], 1, true⟩ = A12 := ⟨_, rfl⟩
  obtain ⟨A13, hA13⟩ : ∃ A13, A12.upd A11.n (some ⟨[.slice (some ⟨A10.n, 0, none⟩) 4 4], 1, true⟩) = A13 := ⟨_, rfl⟩
  have n11 : A11.n = A10.n + 1 := by rw [← hA11]; rfl
  have n12 : A12.n = A10.n + 2 := by rw [← hA12, push_n, n11]
  have n13 : A13.n = A10.n + 2 := by rw [← hA13, upd_n, n12]
  have k11 : Keep (all A10) A10 A11 := by rw [← hA11]; exact push_keep
  have k12 : Keep (all A11) A11 A12 := by rw [← hA12]; exact push_keep
  have f11 : bldS 7 4 [(.int .i64 0), (.int .u64 0), (.int .u64 0), (.int .u64 0), (.int .u64 0), (.int .i64 0), (.int .i64 0)] [(0, 7, .agg (ND ⟨2, ofS [97], 0, 0⟩).toArray), (7, 7, .agg (ND ⟨2, ofS [98], 0, 0⟩).toArray), (14, 7, .agg (ND ⟨5, 0, 1, 0⟩).toArray), (21, 7, .agg (ND ⟨3, 0, 0, 2⟩).toArray)] A10 = some (.slice (some ⟨A10.n, 0, none⟩) 4 4, A11) := by rw [four_nd, hA11]
  have m12 : newV [(.slice none 0 0)] A11 = some (ptr A11.n 0, A12) := by rw [nilbox, hA12]
  have s13 : stV 1 (ptr A11.n 0) (.agg #[.slice (some ⟨A10.n, 0, none⟩) 4 4]) A12 = some (undef, A13) := by rw [← hA13]; exact stG (ds := [.slice (some ⟨A10.n, 0, none⟩) 4 4]) (by rw [← hA12]; exact push_self) rfl rfl rfl
  have k810 : Keep (all A8) A8 A10 := k9.trans (k10.mono (upA k9))
  have k1013 : Keep (all A10) A10 A13 := by
    refine (k11.trans (k12.mono (upA k11))).trans ?_
    rw [← hA13]; exact Keep.upd fun hb => by have hb' : A11.n < A10.n := hb; omega
  have k813 : Keep (all A8) A8 A13 := k810.trans (k1013.mono (upA k810))
  have k13 : Keep (all H) H A13 := k8.trans (k813.mono (upA k8))
  have h810 := k810.1
  have hG13 := hG.keep k13
  have p1 : A13.get A4.n = some ⟨[va], 1, true⟩ := by rw [k813.2 _ (show A4.n < A8.n by omega)]; exact g1
  have p2 : A13.get A5.n = some ⟨[vb], 1, true⟩ := by rw [k813.2 _ (show A5.n < A8.n by omega)]; exact g2
  have p3 : A13.get A11.n = some ⟨[.slice (some ⟨A10.n, 0, none⟩) 4 4], 1, true⟩ := by rw [← hA13]; exact upd_self
  have tx : Tv A13 (.slice (some ⟨A10.n, 0, none⟩) 4 4) exAB := by
    refine .inr (.inr ⟨A10.n, 0, none, 4, ⟨NDS (exAB.flat 0), 7, true⟩, rfl, by show A10.n < A13.n; omega, ?_, by rw [NDS_len]; exact Nat.le_refl _, Nat.le_refl _, ?_⟩)
    · rw [← hA13, upd_ne (by omega), k12.2 _ (show A10.n < A11.n by omega), ← hA11, exAB_flat]; exact push_self
    · rfl
  have ta : Tv A13 va exA := (ta4.keep k48).keep k813
  have tb : Tv A13 vb exB := (t4.keep k48).keep k813
  have ld : ∀ {q : Nat} {x : Value} {G : Heap}, q < A13.n → A13.get q = some ⟨[x], 1, true⟩ → Keep (all A13) A13 G → ldA 1 (ptr q 0) G = some (.agg #[x], G) := fun hq hg kk => ldAG (cs := [_]) (by rw [kk.2 _ hq]; exact hg) rfl
  have h4 : A4.n < A13.n := by omega
  have h5 : A5.n < A13.n := by omega
  have h11 : A11.n < A13.n := by omega
  obtain ⟨v1, A14, c14, t14, q14⟩ := of_ok hG13 (T := [97, 98, 42]) ex1
  obtain ⟨A15, c15, q15'⟩ := nil_ok (t := exAB) (by decide) t14
  rw [ex4] at c15
  have q15 := q14.trans (q15'.mono (upA q14))
  obtain ⟨v2, A16, c16, t16, q16'⟩ := of_ok (hG13.keep q15) (T := [97, 98, 42]) ex1
  have q16 := q15.trans (q16'.mono (upA q15))
  obtain ⟨A17, c17, q17'⟩ := same_tree (by decide) t16 (tx.keep q16)
  have q17 := q16.trans (q17'.mono (upA q16))
  obtain ⟨A18, c18, q18'⟩ := takes2_ok (hG13.keep q17) (T := [97, 98, 42]) (S := [97, 98, 98]) ex1 (by decide) (by decide)
  rw [show U [97, 98, 98] = [97, 98, 98] from rfl, ex2] at c18
  have q18 := q17.trans (q18'.mono (upA q17))
  obtain ⟨A19, c19, q19'⟩ := takes2_ok (hG13.keep q18) (T := [97, 98, 42]) (S := [98, 97]) ex1 (by decide) (by decide)
  rw [show U [98, 97] = [98, 97] from rfl, ex3] at c19
  have q19 := q18.trans (q19'.mono (upA q18))
  obtain ⟨v3, A20, c20, t20, q20'⟩ := of_ok (hG13.keep q19) (T := [97, 124]) ex5
  have q20 := q19.trans (q20'.mono (upA q19))
  obtain ⟨vn, A21, c21, t21, q21'⟩ := none_ok A20
  have q21 := q20.trans (q21'.mono (upA q20))
  obtain ⟨vj, A22, c22, t22, q22'⟩ := join_ok (k := 4) (.inr rfl) (ta.keep q21) t21 (by decide)
  have q22 := q21.trans (q22'.mono (upA q21))
  obtain ⟨A23, c23, q23'⟩ := same_tree (t := .alt exA .nil) (by decide) ((t20.keep q21').keep q22') t22
  have q23 := q22.trans (q23'.mono (upA q22))
  obtain ⟨A24, c24, q24'⟩ := fails_ok (hG13.keep q23) (T := [40, 97]) ex6
  have q24 := q23.trans (q24'.mono (upA q23))
  obtain ⟨A25, c25, q25'⟩ := fails_ok (hG13.keep q24) (T := [97, 124, 42]) ex7
  have q25 := q24.trans (q25'.mono (upA q24))
  obtain ⟨A26, c26, q26'⟩ := fails_ok (hG13.keep q25) (T := [91, 98, 45, 97, 93]) ex8
  have q26 := q25.trans (q26'.mono (upA q25))
  obtain ⟨A27, c27, q27'⟩ := fails_ok (hG13.keep q26) (T := [91, 93]) ex9
  have q27 := q26.trans (q27'.mono (upA q26))
  obtain ⟨vs, A28, c28, t28, q28'⟩ := join_ok (k := 3) (.inl rfl) (ta.keep q27) (tb.keep q27) (by decide)
  have q28 := q27.trans (q28'.mono (upA q27))
  obtain ⟨vo, A29, c29, t29, q29'⟩ := over_ok (k := 5) (.inl rfl) t28 (by decide)
  have q29 := q28.trans (q29'.mono (upA q28))
  obtain ⟨A30, c30, q30'⟩ := prints_ok (hG13.keep q29) (t := .star (.seq exA exB)) (T := [40, 97, 98, 41, 42]) (by decide) t29 ex10 (by decide)
  have q30 := q29.trans (q30'.mono (upA q29))
  obtain ⟨B31, A31, b31, c31, q31'⟩ := of4_ok (H := A30)
  have q31 := q30.trans (q31'.mono (upA q30))
  obtain ⟨v32, A32, c32, t32, q32'⟩ := one_ok (ofS [97, 98, 99, 120]) A31
  have q32 := q31.trans (q32'.mono (upA q31))
  obtain ⟨A33, c33, q33'⟩ := prints_ok (hG13.keep q32) (T := [91, 97, 45, 99, 120, 93]) (by simp [Rx.size]) t32 ex11 (by decide)
  have q33 := q32.trans (q33'.mono (upA q32))
  obtain ⟨A34, c34, q34'⟩ := sspan_ok (E := EX) (H := A33) rfl (x := 0) (y := 255) (by decide) (by decide)
  have q34 := q33.trans (q34'.mono (upA q33))
  obtain ⟨v35, A35, c35, t35, q35'⟩ := one_ok (spanS 0 255) A34
  have q35 := q34.trans (q35'.mono (upA q34))
  obtain ⟨A36, c36, q36'⟩ := prints_ok (hG13.keep q35) (T := [91, 92, 120, 48, 48, 45, 92, 120, 102, 102, 93]) (by simp [Rx.size]) t35 ex12 (by decide)
  have q36 := q35.trans (q36'.mono (upA q35))
  refine ⟨A36, Ev.enter (fun n => f19_eq rfl n _) ?_, k13.trans (q36.mono (upA k13))⟩
  have b1' : bldS 1 1 [.int .u8 0] [(0, 1, .int .u8 97)] H = some (.slice (some ⟨H.n, 0, none⟩) 1 1, B1) := b1
  have b3' : bldS 1 1 [.int .u8 0] [(0, 1, .int .u8 98)] A2 = some (.slice (some ⟨A2.n, 0, none⟩) 1 1, B3) := b3
  have b9' : bldS 1 1 [.int .u8 0] [(0, 1, .int .u8 97)] A8 = some (.slice (some ⟨A8.n, 0, none⟩) 1 1, B9) := b9
  have b10' : bldS 1 1 [.int .u8 0] [(0, 1, .int .u8 98)] A9 = some (.slice (some ⟨A9.n, 0, none⟩) 1 1, B10) := b10
  simp only [f19, ruA, b1']
  refine Ev.callC c1 ?_
  refine Ev.callC c2 ?_
  simp only [ruA, b3']
  refine Ev.callC c3 ?_
  refine Ev.callC c4 ?_
  simp only [ruA, m5, m6, s7, s8, b9']
  refine Ev.callC c9 ?_
  simp only [ruA, nd_set', b10']
  refine Ev.callC c10 ?_
  simp only [ruA, nd_set', nd_one, nd_two, f11, bldV (H := A11) (x := .slice (some ⟨A10.n, 0, none⟩) 4 4) rfl, m12, s13]
  refine Ev.callC c14 ?_
  refine Ev.callC c15 ?_
  simp only [ruA, ruD]
  refine Ev.callC c16 ?_
  simp only [ruA, blk_keep (Nat.lt_of_lt_of_le h11 q15.1) q16', Bool.and_true, ld h11 p3 q16]
  refine Ev.callC c17 ?_
  simp only [ruA, ruB, ruC, ruE, ruD, lenStr, Int.reduceBEq, Int.reduceBNe]
  refine Ev.callC c18 ?_
  try simp only [ruA, ruB, ruC, ruE, ruD, lenStr, Int.reduceBEq, Int.reduceBNe, Bool.or_true]
  refine Ev.callC c19 ?_
  try simp only [ruA, ruB, ruC, ruE, ruD, lenStr, Int.reduceBEq, Int.reduceBNe, Bool.or_true]
  refine Ev.callC c20 ?_
  simp only [ruA, ruB, ruC, ruE, ruD, lenStr, Int.reduceBEq, Int.reduceBNe, Bool.or_true, blk_keep (Nat.lt_of_lt_of_le h4 q19.1) q20', Bool.and_true, ld h4 p1 q20]
  refine Ev.callC c21 ?_
  simp only [ruA, ruB, ruC, ruE, ruD, lenStr, Int.reduceBEq, Int.reduceBNe, if_true, Bool.or_true, blk_keep (Nat.lt_of_lt_of_le h4 q20.1) q21', Bool.and_true]
  refine Ev.callC c22 ?_
  try simp only [ruA, ruB, ruC, ruE, ruD, lenStr, Int.reduceBEq, Int.reduceBNe, Bool.or_true]
  refine Ev.callC c23 ?_
  try simp only [ruA, ruB, ruC, ruE, ruD, lenStr, Int.reduceBEq, Int.reduceBNe, Bool.or_true]
  refine Ev.callC c24 ?_
  try simp only [ruA, ruB, ruC, ruE, ruD, lenStr, Int.reduceBEq, Int.reduceBNe, Bool.or_true]
  refine Ev.callC c25 ?_
  try simp only [ruA, ruB, ruC, ruE, ruD, lenStr, Int.reduceBEq, Int.reduceBNe, Bool.or_true]
  refine Ev.callC c26 ?_
  try simp only [ruA, ruB, ruC, ruE, ruD, lenStr, Int.reduceBEq, Int.reduceBNe, Bool.or_true]
  refine Ev.callC c27 ?_
  simp only [ruA, ruB, ruC, ruE, ruD, lenStr, Int.reduceBEq, Int.reduceBNe, Bool.or_true, ld h4 p1 q27, ld h5 p2 q27]
  refine Ev.callC c28 ?_
  try simp only [ruA, ruB, ruC, ruE, ruD, lenStr, Int.reduceBEq, Int.reduceBNe, Bool.or_true]
  refine Ev.callC c29 ?_
  try simp only [ruA, ruB, ruC, ruE, ruD, lenStr, Int.reduceBEq, Int.reduceBNe, Bool.or_true]
  refine Ev.callC c30 ?_
  simp only [ruA, ruB, ruC, ruE, ruD, lenStr, Int.reduceBEq, Int.reduceBNe, Bool.or_true, b31]
  refine Ev.callC c31 ?_
  try simp only [ruA, ruB, ruC, ruE, ruD, lenStr, Int.reduceBEq, Int.reduceBNe, Bool.or_true]
  refine Ev.callC c32 ?_
  try simp only [ruA, ruB, ruC, ruE, ruD, lenStr, Int.reduceBEq, Int.reduceBNe, Bool.or_true]
  refine Ev.callC c33 ?_
  try simp only [ruA, ruB, ruC, ruE, ruD, lenStr, Int.reduceBEq, Int.reduceBNe, Bool.or_true]
  refine Ev.callC c34 ?_
  try simp only [ruA, ruB, ruC, ruE, ruD, lenStr, Int.reduceBEq, Int.reduceBNe, Bool.or_true]
  refine Ev.callC c35 ?_
  try simp only [ruA, ruB, ruC, ruE, ruD, lenStr, Int.reduceBEq, Int.reduceBNe, Bool.or_true]
  refine Ev.callC c36 ?_
  try simp only [ruA, ruB, ruC, ruE, ruD, lenStr, Int.reduceBEq, Int.reduceBNe, Bool.or_true]
  exact Ev.pure _
end Go.Eng
