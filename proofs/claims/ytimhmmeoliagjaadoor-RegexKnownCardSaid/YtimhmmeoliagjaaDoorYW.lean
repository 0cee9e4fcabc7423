import Derived.Test.YtimhmmeoliagjaaDoorYU
set_option linter.unusedVariables false
set_option linter.unusedSimpArgs false
set_option linter.unusedSectionVars false
set_option maxRecDepth 100000
namespace Go.Eng
open Go Go.Proofs

def Tv (H : Heap) (v : Value) (t : Rx) : Prop := Sl (all H) H 7 v t.size (NDS (t.flat 0))
theorem Tv.keep {H H' : Heap} {v : Value} {t : Rx} (h : Tv H v t) (k : Keep (all H) H H') : Tv H' v t := (Sl.keep h k).mono (upA k)
theorem Tv.ld {H : Heap} {v : Value} {t : Rx} (h : Tv H v t) : lenS v = some (.int .i64 (t.size : Int)) := Sl.lenS h
theorem bldV {H : Heap} {x : Value} (h : x.cells = #[x]) : bld [(.slice none 0 0)] [(0, 1, x)] H = some (.agg #[x], H) := by
  simp [bld, fillC, h, splice]
theorem wrap_end {H : Heap} {q : Nat} {x : Value} (hg : H.get q = some ⟨[.slice none 0 0], 1, true⟩) (h1 : x.cells = #[x]) (h2 : oneC x = true) : ∃ H', stV 1 (ptr q 0) (.agg #[x]) H = some (undef, H') ∧ ldA 1 (ptr q 0) H' = some (.agg #[x], H') ∧ Keep (fun b => b < H.n ∧ b ≠ q) H H' := by
  refine ⟨H.upd q (some ⟨[x], 1, true⟩), stG (ds := [x]) hg rfl rfl (by simp [h2]), ldAG (cs := [x]) upd_self rfl, Keep.upd fun h => h.2 rfl⟩
theorem one_ok (s : Nat) (H : Heap) : ∃ v H', ClX 30 [.agg (SC s).toArray] H (.agg #[v]) H' ∧ Tv H' v (.set s) ∧ Keep (all H) H H' := by
  obtain ⟨H1, hH1⟩ : ∃ H1, H.push ⟨SC s, 1, true⟩ = H1 := ⟨_, rfl⟩
  obtain ⟨H2, hH2⟩ : ∃ H2, H1.push ⟨[.slice none 0 0], 1, true⟩ = H2 := ⟨_, rfl⟩
  obtain ⟨H3, hH3⟩ : ∃ H3, H2.push ⟨ND ⟨2, s, 0, 0⟩, 7, true⟩ = H3 := ⟨_, rfl⟩
  have n1 : H1.n = H.n + 1 := by rw [← hH1]; rfl
  have n2 : H2.n = H.n + 2 := by rw [← hH2, push_n, n1]
  have n3 : H3.n = H.n + 3 := by rw [← hH3, push_n, n2]
  have k1 : Keep (all H) H H1 := by rw [← hH1]; exact push_keep
  have k2 : Keep (all H1) H1 H2 := by rw [← hH2]; exact push_keep
  have k3 : Keep (all H2) H2 H3 := by rw [← hH3]; exact push_keep
  have b2 : H2.get H.n = some ⟨SC s, 1, true⟩ := by rw [k2.2 _ (show H.n < H1.n by omega), ← hH1]; exact push_self
  have b3 : H3.get H1.n = some ⟨[.slice none 0 0], 1, true⟩ := by rw [k3.2 _ (show H1.n < H2.n by omega), ← hH2]; exact push_self
  obtain ⟨H4, s4, l4, k4⟩ := wrap_end (x := .slice (some ⟨H2.n, 0, none⟩) 1 1) b3 rfl rfl
  have n4 := k4.1
  have g4 : H4.get H2.n = some ⟨ND ⟨2, s, 0, 0⟩, 7, true⟩ := by rw [k4.2 _ ⟨by omega, by omega⟩, ← hH3]; exact push_self
  refine ⟨.slice (some ⟨H2.n, 0, none⟩) 1 1, H4, Ev.enter (fun n => f30_eq rfl n _ _) ?_, ?_, ?_⟩
  · have nv : newV [(.slice none 0 0)] H1 = some (ptr H1.n 0, H2) := by rw [← hH2]; rfl
    have zn : bldS 7 1 [.int .i64 0, .int .u64 0, .int .u64 0, .int .u64 0, .int .u64 0, .int .i64 0, .int .i64 0] [(0, 7, .agg (ND ⟨2, s, 0, 0⟩).toArray)] H2 = some (.slice (some ⟨H2.n, 0, none⟩) 1 1, H3) := by rw [← hH3]; exact zero_nd
    simp only [f30, ruA, ruB, ruC, ruE, ruD, lenStr, Int.reduceBEq, Int.reduceBNe, newA (SC_one s), hH1, nv, ldAG b2 (SC_len _), nd_set, zn, bldV (H := H3) (x := .slice (some ⟨H2.n, 0, none⟩) 1 1) rfl, s4, l4, Option.map_some, resM1, one1]
    exact Ev.pure _
  · exact .inr (.inr ⟨H2.n, 0, none, 1, _, rfl, by show H2.n < H4.n; omega, g4, by simp [ND, Rx.size], Nat.le_refl _, rfl⟩)
  · exact ((k1.trans (k2.mono (upA k1))).trans (k3.mono (upA (k1.trans (k2.mono (upA k1)))))).trans (k4.mono fun b hb => by have hb' : b < H.n := hb; exact ⟨by omega, by omega⟩)
theorem none_ok (H : Heap) : ∃ v H', ClX 40 [] H (.agg #[v]) H' ∧ Tv H' v .nil ∧ Keep (all H) H H' := by
  obtain ⟨H1, hH1⟩ : ∃ H1, H.push ⟨[.slice none 0 0], 1, true⟩ = H1 := ⟨_, rfl⟩
  obtain ⟨H2, hH2⟩ : ∃ H2, H1.push ⟨ND ⟨1, 0, 0, 0⟩, 7, true⟩ = H2 := ⟨_, rfl⟩
  have n1 : H1.n = H.n + 1 := by rw [← hH1]; rfl
  have n2 : H2.n = H.n + 2 := by rw [← hH2, push_n, n1]
  have k1 : Keep (all H) H H1 := by rw [← hH1]; exact push_keep
  have k2 : Keep (all H1) H1 H2 := by rw [← hH2]; exact push_keep
  have b2 : H2.get H.n = some ⟨[.slice none 0 0], 1, true⟩ := by rw [k2.2 _ (show H.n < H1.n by omega), ← hH1]; exact push_self
  obtain ⟨H4, s4, l4, k4⟩ := wrap_end (x := .slice (some ⟨H1.n, 0, none⟩) 1 1) b2 rfl rfl
  have n4 := k4.1
  have g4 : H4.get H1.n = some ⟨ND ⟨1, 0, 0, 0⟩, 7, true⟩ := by rw [k4.2 _ ⟨by omega, by omega⟩, ← hH2]; exact push_self
  refine ⟨.slice (some ⟨H1.n, 0, none⟩) 1 1, H4, Ev.enter (fun n => f40_eq rfl n _) ?_, ?_, ?_⟩
  · have nv : newV [(.slice none 0 0)] H = some (ptr H.n 0, H1) := by rw [← hH1]; rfl
    have zn : bldS 7 1 [.int .i64 0, .int .u64 0, .int .u64 0, .int .u64 0, .int .u64 0, .int .i64 0, .int .i64 0] [(0, 7, .agg (ND ⟨1, 0, 0, 0⟩).toArray)] H1 = some (.slice (some ⟨H1.n, 0, none⟩) 1 1, H2) := by rw [← hH2]; exact zero_nd
    simp only [f40, ruA, ruB, ruC, ruE, ruD, lenStr, Int.reduceBEq, Int.reduceBNe, nv, nd_nil, zn, bldV (H := H2) (x := .slice (some ⟨H1.n, 0, none⟩) 1 1) rfl, s4, l4, Option.map_some, resM1, one1]
    exact Ev.pure _
  · exact .inr (.inr ⟨H1.n, 0, none, 1, _, rfl, by show H1.n < H4.n; omega, g4, by simp [ND, Rx.size], Nat.le_refl _, rfl⟩)
  · exact (k1.trans (k2.mono (upA k1))).trans (k4.mono fun b hb => by have hb' : b < H.n := hb; exact ⟨by omega, by omega⟩)
def movN (k : Nat) (n : Nd) : Nd := ⟨n.kind, n.set, if n.kind ≥ 3 then n.a + k else n.a, if n.kind = 3 ∨ n.kind = 4 then n.b + k else n.b⟩
theorem flat_move : ∀ (t : Rx) (o d : Nat), t.flat (o + d) = (t.flat o).map (movN d)
  | .nil, _, _ => rfl
  | .set _, _, _ => rfl
  | .seq x y, o, d => by
    have px := x.size_pos; have py := y.size_pos
    simp only [Rx.flat, List.map_append, List.map_cons, List.map_nil, flat_move x o d, ← flat_move y (o + x.size) d]
    rw [show o + d + x.size = o + x.size + d by omega]
    congr 2
    simp only [movN]
    simp
    omega
  | .alt x y, o, d => by
    have px := x.size_pos; have py := y.size_pos
    simp only [Rx.flat, List.map_append, List.map_cons, List.map_nil, flat_move x o d, ← flat_move y (o + x.size) d]
    rw [show o + d + x.size = o + x.size + d by omega]
    congr 2
    simp only [movN]
    simp
    omega
  | .star x, o, d => by
    have px := x.size_pos
    simp only [Rx.flat, List.map_append, List.map_cons, List.map_nil, flat_move x o d]
    congr 2
    simp only [movN]
    simp
    omega
  | .plus x, o, d => by
    have px := x.size_pos
    simp only [Rx.flat, List.map_append, List.map_cons, List.map_nil, flat_move x o d]
    congr 2
    simp only [movN]
    simp
    omega
def smN (n : Nd) : Prop := -1000000 ≤ n.a ∧ n.a ≤ 1000000 ∧ -1000000 ≤ n.b ∧ n.b ≤ 1000000
theorem mov_ok {n : Nd} (hn : smN n) {k : Nat} (hk : k ≤ 1000000) (H : Heap) : ∃ H', ClX 48 [.agg (ND n).toArray, .int .i64 (k : Int)] H (.agg (ND (movN k n)).toArray) H' ∧ Keep (all H) H H' := by
  obtain ⟨ha1, ha2, hb1, hb2⟩ := hn
  obtain ⟨H1, hH1⟩ : ∃ H1, H.push ⟨ND n, 1, true⟩ = H1 := ⟨_, rfl⟩
  obtain ⟨H2, hH2⟩ : ∃ H2, H1.push ⟨zND, 1, true⟩ = H2 := ⟨_, rfl⟩
  have n1 : H1.n = H.n + 1 := by rw [← hH1]; rfl
  have n2 : H2.n = H.n + 2 := by rw [← hH2, push_n, n1]
  have k1 : Keep (all H) H H1 := by rw [← hH1]; exact push_keep
  have k2 : Keep (all H1) H1 H2 := by rw [← hH2]; exact push_keep
  have k12 := k1.trans (k2.mono (upA k1))
  have g2 : H2.get H.n = some ⟨ND n, 1, true⟩ := by rw [k2.2 _ (show H.n < H1.n by omega), ← hH1]; exact push_self
  have z2 : H2.get H1.n = some ⟨zND, 1, true⟩ := by rw [← hH2]; exact push_self
  have nA : newV (Value.cells (.agg (ND n).toArray)).toList H = some (ptr H.n 0, H1) := by rw [newA rfl, hH1]
  have nZ : newV [(.int .i64 0), (.int .u64 0), (.int .u64 0), (.int .u64 0), (.int .u64 0), (.int .i64 0), (.int .i64 0)] H1 = some (ptr H1.n 0, H2) := by rw [← hH2]; rfl
  have fin : ∀ (m : Nd) (H3 : Heap), H3.get H.n = some ⟨ND m, 1, true⟩ → H3.get H1.n = some ⟨zND, 1, true⟩ → Keep (all H) H H3 → ∃ H', Ev (fun n _ => f48_J1 real (AX n) n (ptr H.n 0) (ptr H1.n 0) H3) (.agg (ND m).toArray, H') ∧ Keep (all H) H H' := fun m H3 g3 z3 k3 => by
    refine ⟨H3.upd H1.n (some ⟨ND m, 1, true⟩), ?_, k3.trans (Keep.upd fun hb => by have : H1.n < H.n := hb; omega)⟩
    have l1 : ldA 7 (ptr H.n 0) H3 = some (.agg (ND m).toArray, H3) := ldAG g3 rfl
    have s1 : stV 7 (ptr H1.n 0) (.agg (ND m).toArray) H3 = some (undef, H3.upd H1.n (some ⟨ND m, 1, true⟩)) := stG z3 rfl rfl rfl
    have l2 : ldA 7 (ptr H1.n 0) (H3.upd H1.n (some ⟨ND m, 1, true⟩)) = some (.agg (ND m).toArray, H3.upd H1.n (some ⟨ND m, 1, true⟩)) := ldAG upd_self rfl
    simp only [f48_J1, ruA, ruB, ruC, ruE, ruD, lenStr, Int.reduceBEq, Int.reduceBNe, l1, s1, l2, Option.map_some, resM1, one1]
    exact Ev.pure _
  have mid : ∀ (m : Nd) (H3 : Heap), m.kind = n.kind → m.b = n.b → H3.get H.n = some ⟨ND m, 1, true⟩ → H3.get H1.n = some ⟨zND, 1, true⟩ → Keep (all H) H H3 → ∃ H', Ev (fun n _ => f48_J2 real (AX n) n (.int .i64 (k : Int)) (ptr H.n 0) (ptr H1.n 0) H3) (.agg (ND ⟨m.kind, m.set, m.a, if n.kind = 3 ∨ n.kind = 4 then n.b + k else n.b⟩).toArray, H') ∧ Keep (all H) H H' := fun m H3 hmk hmb g3 z3 k3 => by
    have z6 := nd6 g3
    rw [hmb] at z6
    by_cases h34 : n.kind = 3 ∨ n.kind = 4
    · rw [if_pos h34]
      have w : IntKind.i64.wrap (n.b + (k : Int)) = n.b + k := wrap_i64 (by omega) (by omega)
      have st : stV 1 (ptr H.n 6) (.int .i64 (n.b + k)) H3 = some (undef, H3.upd H.n (some ⟨ND ⟨m.kind, m.set, m.a, n.b + k⟩, 1, true⟩)) := by
        rw [stV1_box g3 (by show 6 < 7; omega) rfl rfl]; rfl
      obtain ⟨H', r1, r2⟩ := fin ⟨m.kind, m.set, m.a, n.b + k⟩ (H3.upd H.n (some ⟨ND ⟨m.kind, m.set, m.a, n.b + k⟩, 1, true⟩)) upd_self (by rw [upd_ne (by omega)]; exact z3) (k3.trans (Keep.upd fun hb => by have : H.n < H.n := hb; omega))
      refine ⟨H', ?_, r2⟩
      rcases h34 with h | h
      · simp only [f48_J2, ruA, ruB, ruC, ruE, ruD, lenStr, Int.reduceBEq, Int.reduceBNe, nd0 g3, hmk, h, z6, w, st]; simp only [hmk, h] at r1; exact r1
      · simp only [f48_J2, ruA, ruB, ruC, ruE, ruD, lenStr, Int.reduceBEq, Int.reduceBNe, nd0 g3, hmk, h, z6, w, st]; simp only [hmk, h] at r1; exact r1
    · rw [if_neg h34]
      have h3 := decide_eq_false fun h : n.kind = 3 => h34 (.inl h)
      have h4 := decide_eq_false fun h : n.kind = 4 => h34 (.inr h)
      obtain ⟨H', r1, r2⟩ := fin m H3 g3 z3 k3
      refine ⟨H', ?_, r2⟩
      have em : (⟨m.kind, m.set, m.a, n.b⟩ : Nd) = m := by rw [← hmb]
      rw [em]
      simp only [f48_J2, ruA, ruB, ruC, ruE, ruD, lenStr, Int.reduceBEq, Int.reduceBNe, nd0 g3, hmk, i_eq, h3, h4]
      exact r1
  by_cases h3 : n.kind ≥ 3
  · have e3 : (n.kind ≥ 3) = True := eq_true h3
    have w : IntKind.i64.wrap (n.a + (k : Int)) = n.a + k := wrap_i64 (by omega) (by omega)
    have st : stV 1 (ptr H.n 5) (.int .i64 (n.a + k)) H2 = some (undef, H2.upd H.n (some ⟨ND ⟨n.kind, n.set, n.a + k, n.b⟩, 1, true⟩)) := by
      rw [stV1_box g2 (by show 5 < 7; omega) rfl rfl]; rfl
    obtain ⟨H', r1, r2⟩ := mid ⟨n.kind, n.set, n.a + k, n.b⟩ (H2.upd H.n (some ⟨ND ⟨n.kind, n.set, n.a + k, n.b⟩, 1, true⟩)) rfl rfl upd_self (by rw [upd_ne (by omega)]; exact z2) (k12.trans (Keep.upd fun hb => by have : H.n < H.n := hb; omega))
    refine ⟨H', Ev.enter (fun n => f48_eq rfl n _ _ _) ?_, r2⟩
    have em : movN k n = ⟨n.kind, n.set, n.a + k, if n.kind = 3 ∨ n.kind = 4 then n.b + k else n.b⟩ := by unfold movN; rw [if_pos h3]
    rw [em]
    simp only [f48, ruA, ruB, ruC, ruE, ruD, lenStr, Int.reduceBEq, Int.reduceBNe, nA, nZ, nd0 g2, e3, nd5 g2, w, st]
    exact r1
  · have e3 : (n.kind ≥ 3) = False := eq_false h3
    obtain ⟨H', r1, r2⟩ := mid n H2 rfl rfl g2 z2 k12
    refine ⟨H', Ev.enter (fun n => f48_eq rfl n _ _ _) ?_, r2⟩
    have em : movN k n = ⟨n.kind, n.set, n.a, if n.kind = 3 ∨ n.kind = 4 then n.b + k else n.b⟩ := by unfold movN; rw [if_neg h3]
    rw [em]
    simp only [f48, ruA, ruB, ruC, ruE, ruD, lenStr, Int.reduceBEq, Int.reduceBNe, nA, nZ, nd0 g2, e3]
    exact r1
end Go.Eng

set_option linter.unusedVariables false
set_option linter.unusedSimpArgs false
set_option linter.unusedSectionVars false
set_option maxRecDepth 100000
namespace Go.Eng
open Go Go.Proofs

theorem flat_sm : ∀ (t : Rx) (o : Nat), o + t.size ≤ 1000000 → ∀ n ∈ t.flat o, smN n
  | .nil, o, h, n, hn => by simp only [Rx.flat, List.mem_cons, List.not_mem_nil, or_false] at hn; subst hn; exact ⟨by decide, by decide, by decide, by decide⟩
  | .set s, o, h, n, hn => by simp only [Rx.flat, List.mem_cons, List.not_mem_nil, or_false] at hn; subst hn; exact ⟨by simp, by simp, by simp, by simp⟩
  | .seq x y, o, h, n, hn => by
    simp only [Rx.size] at h
    simp only [Rx.flat, List.mem_append, List.mem_cons, List.not_mem_nil, or_false] at hn
    rcases hn with (hn | hn) | hn
    · exact flat_sm x o (by omega) n hn
    · exact flat_sm y (o + x.size) (by omega) n hn
    · subst hn; unfold smN; simp only; omega
  | .alt x y, o, h, n, hn => by
    simp only [Rx.size] at h
    simp only [Rx.flat, List.mem_append, List.mem_cons, List.not_mem_nil, or_false] at hn
    rcases hn with (hn | hn) | hn
    · exact flat_sm x o (by omega) n hn
    · exact flat_sm y (o + x.size) (by omega) n hn
    · subst hn; unfold smN; simp only; omega
  | .star x, o, h, n, hn => by
    simp only [Rx.size] at h
    simp only [Rx.flat, List.mem_append, List.mem_cons, List.not_mem_nil, or_false] at hn
    rcases hn with hn | hn
    · exact flat_sm x o (by omega) n hn
    · subst hn; unfold smN; simp only; omega
  | .plus x, o, h, n, hn => by
    simp only [Rx.size] at h
    simp only [Rx.flat, List.mem_append, List.mem_cons, List.not_mem_nil, or_false] at hn
    rcases hn with hn | hn
    · exact flat_sm x o (by omega) n hn
    · subst hn; unfold smN; simp only; omega
theorem snoc_ok {H0 H : Heap} {v : Value} {n : Nat} {l : List Nd} (h : Acc (all H0) H 7 v l.length (NDS l)) (hn : H0.n ≤ H.n) (hk : Keep (all H0) H0 H) (hl : l.length ≤ 1000000) (nd : Nd) :
    ∃ H1 v' H', bldS 7 1 [.int .i64 0, .int .u64 0, .int .u64 0, .int .u64 0, .int .u64 0, .int .i64 0, .int .i64 0] [(0, 7, .agg (ND nd).toArray)] H = some (.slice (some ⟨H.n, 0, none⟩) 1 1, H1) ∧
      app 7 56 v (.slice (some ⟨H.n, 0, none⟩) 1 1) H1 = some (v', H') ∧ Acc (all H0) H' 7 v' (l ++ [nd]).length (NDS (l ++ [nd])) ∧ Keep (all H0) H0 H' := by
  obtain ⟨H1, hH1⟩ : ∃ H1, H.push ⟨ND nd, 7, true⟩ = H1 := ⟨_, rfl⟩
  have k1 : Keep (all H) H H1 := by rw [← hH1]; exact push_keep
  have hadd : addend 7 (.slice (some ⟨H.n, 0, none⟩) 1 1) H1 = some (1, ND nd) := by rw [← hH1]; exact addend_push rfl
  have hmb : mostBytes = 140737488355328 := rfl
  obtain ⟨v', H3, a1, a2, a3, _⟩ := (h.keep k1).appQ (by_ := 56) (Nat.le_trans hn k1.1) hadd rfl (by omega)
  refine ⟨H1, v', H3, by rw [zero_nd, hH1], a1, ?_, ?_⟩
  · rw [List.length_append, NDS_snoc]; exact a2
  · exact (hk.trans (k1.mono fun b hb => Nat.lt_of_lt_of_le hb hn)).trans a3
def two (k : Int) (x y : Rx) : Rx := if k = 3 then .seq x y else .alt x y
def many (k : Int) (x : Rx) : Rx := if k = 5 then .star x else .plus x
theorem two_flat {k : Int} (hk : k = 3 ∨ k = 4) (x y : Rx) : (two k x y).flat 0 = x.flat 0 ++ y.flat x.size ++ [⟨k, 0, ((x.size - 1 : Nat) : Int), ((x.size + y.size - 1 : Nat) : Int)⟩] := by
  unfold two
  rcases hk with rfl | rfl
  · rw [if_pos rfl, Rx.flat]; simp only [Nat.zero_add]
  · rw [if_neg (by decide), Rx.flat]; simp only [Nat.zero_add]
theorem many_flat {k : Int} (hk : k = 5 ∨ k = 6) (x : Rx) : (many k x).flat 0 = x.flat 0 ++ [⟨k, 0, ((x.size - 1 : Nat) : Int), 0⟩] := by
  unfold many
  rcases hk with rfl | rfl
  · rw [if_pos rfl, Rx.flat]; simp only [Nat.zero_add]
  · rw [if_neg (by decide), Rx.flat]; simp only [Nat.zero_add]
theorem acc_tv {H0 H : Heap} {v : Value} {t : Rx} {l : List Nd} (h : Acc (all H0) H 7 v l.length (NDS l)) (hl : l = t.flat 0) : Tv H v t := by
  have := h.sl
  subst hl
  rw [Rx.flat_len] at this
  exact this
theorem join_ok {k : Int} (hk : k = 3 ∨ k = 4) {x y : Rx} {va vb : Value} {H : Heap} (hx : Tv H va x) (hy : Tv H vb y) (hs : x.size + y.size ≤ 100000) :
    ∃ v H', ClX 25 [.int .i64 k, .agg #[va], .agg #[vb]] H (.agg #[v]) H' ∧ Tv H' v (two k x y) ∧ Keep (all H) H H' := by
  obtain ⟨ca, oa⟩ := slc_cells hx
  obtain ⟨cb, ob⟩ := slc_cells hy
  obtain ⟨H1, hH1⟩ : ∃ H1, H.push ⟨[va], 1, true⟩ = H1 := ⟨_, rfl⟩
  obtain ⟨H2, hH2⟩ : ∃ H2, H1.push ⟨[vb], 1, true⟩ = H2 := ⟨_, rfl⟩
  obtain ⟨H3, hH3⟩ : ∃ H3, H2.push ⟨[.slice none 0 0], 1, true⟩ = H3 := ⟨_, rfl⟩
  have n1 : H1.n = H.n + 1 := by rw [← hH1]; rfl
  have n2 : H2.n = H.n + 2 := by rw [← hH2, push_n, n1]
  have n3 : H3.n = H.n + 3 := by rw [← hH3, push_n, n2]
  have k1 : Keep (all H) H H1 := by rw [← hH1]; exact push_keep
  have k2 : Keep (all H1) H1 H2 := by rw [← hH2]; exact push_keep
  have k3 : Keep (all H2) H2 H3 := by rw [← hH3]; exact push_keep
  have k13 : Keep (all H) H H3 := k1.trans ((k2.trans (k3.mono (upA k2))).mono (upA k1))
  have gA : H3.get H.n = some ⟨[va], 1, true⟩ := by rw [k3.2 _ (show H.n < H2.n by omega), k2.2 _ (show H.n < H1.n by omega), ← hH1]; exact push_self
  have gB : H3.get H1.n = some ⟨[vb], 1, true⟩ := by rw [k3.2 _ (show H1.n < H2.n by omega), ← hH2]; exact push_self
  have gN : H3.get H2.n = some ⟨[.slice none 0 0], 1, true⟩ := by rw [← hH3]; exact push_self
  have nA : newV (Value.cells (.agg #[va])).toList H = some (ptr H.n 0, H1) := by rw [← hH1]; exact newA (cs := [va]) (by simp [oa])
  have nB : newV (Value.cells (.agg #[vb])).toList H1 = some (ptr H1.n 0, H2) := by rw [← hH2]; exact newA (cs := [vb]) (by simp [ob])
  have nN : newV [(.slice none 0 0)] H2 = some (ptr H2.n 0, H3) := by rw [← hH3]; rfl
  have lA : ∀ {G : Heap}, Keep (all H3) H3 G → ldC (ptr H.n 0) G = some (va, G) := fun kk => ldG (by rw [kk.2 _ (show H.n < H3.n by omega)]; exact gA) rfl
  have lB : ∀ {G : Heap}, Keep (all H3) H3 G → ldC (ptr H1.n 0) G = some (vb, G) := fun kk => ldG (by rw [kk.2 _ (show H1.n < H3.n by omega)]; exact gB) rfl
  have hx3 := hx.keep k13
  have hy3 := hy.keep k13
  have hmb : mostBytes = 140737488355328 := rfl
  have px := x.size_pos
  have py := y.size_pos
  have hlx : (NDS (x.flat 0)).length = x.size * 7 := by rw [NDS_len, Rx.flat_len]
  obtain ⟨v0, H4, a1, a2, a3, _⟩ := (Acc.nil (R := all H3) (H := H3) (sz := 7)).appQ (by_ := 56) (Nat.le_refl _) (Sl.addend hx3) hlx (by omega)
  rw [List.nil_append, Nat.zero_add] at a2
  have ay : ∀ i, (y.flat x.size)[i]? = ((y.flat 0)[i]?).map (movN x.size) := fun i => by
    have := flat_move y 0 x.size
    rw [Nat.zero_add] at this
    rw [this, List.getElem?_map]
  have loop : ∀ (d i : Nat) (G : Heap) (v : Value), i + d = y.size → Keep (all H3) H3 G → Acc (all H3) G 7 v (x.flat 0 ++ (y.flat x.size).take i).length (NDS (x.flat 0 ++ (y.flat x.size).take i)) →
      ∃ w G', Ev (fun n m => f25_L0 real (AX n) n m (.int .i64 k) (ptr H.n 0) (ptr H1.n 0) (ptr H2.n 0) v (.int .i64 (i : Int)) G) (.agg #[w], G') ∧ Tv G' w (two k x y) ∧ Keep (all H) H G' := by
    intro d
    induction d with
    | zero =>
      intro i G v hi kG hA
      obtain rfl : i = y.size := by omega
      have hfull : (y.flat x.size).take y.size = y.flat x.size := List.take_of_length_le (by rw [Rx.flat_len]; omega)
      rw [hfull] at hA
      have hlen : (x.flat 0 ++ y.flat x.size).length = x.size + y.size := by rw [List.length_append, Rx.flat_len, Rx.flat_len]
      obtain ⟨G1, w, G2, b1, b2, b3, b4⟩ := snoc_ok (n := 0) hA kG.1 kG (by rw [hlen]; omega) ⟨k, 0, ((x.size - 1 : Nat) : Int), ((x.size + y.size - 1 : Nat) : Int)⟩
      have ow := b3.oneC
      have gN2 : G2.get H2.n = some ⟨[.slice none 0 0], 1, true⟩ := by rw [b4.2 _ (show H2.n < H3.n by omega)]; exact gN
      obtain ⟨G3, s3, l3, k3'⟩ := wrap_end gN2 ow.2 ow.1
      have hw : Tv G2 w (two k x y) := acc_tv b3 (two_flat hk x y).symm
      have hn2 := b4.1
      refine ⟨w, G3, Ev.step (fun n m => f25_L0.eq_2 _ _ _ _ _ _ _ _ _ _ m) ?_, ?_, ?_⟩
      · have e : ((y.size : Int) < (y.size : Int)) = False := by simp
        have w1 : IntKind.i64.wrap ((x.size : Int) - 1) = ((x.size - 1 : Nat) : Int) := by rw [wrap_i64 (by omega) (by omega)]; omega
        have w2 : IntKind.i64.wrap (((x.size + y.size : Nat) : Int) - 1) = ((x.size + y.size - 1 : Nat) : Int) := by rw [wrap_i64 (by omega) (by omega)]; omega
        have lv : lenS v = some (.int .i64 ((x.size + y.size : Nat) : Int)) := by rw [hA.sl.lenS, hlen]
        simp only [ruA, ruB, ruC, ruE, ruD, lenStr, Int.reduceBEq, Int.reduceBNe, lB kG, hy.ld, e, lA kG, hx.ld, w1, lv, w2, nd_two, b1, b2, bldV ow.2, s3, l3, Option.map_some, resM1, one1]
        exact Ev.pure _
      · have hne : blkOf w ≠ some H2.n := by
          rcases b3 with ⟨rfl, _⟩ | ⟨b, rfl, hb, _⟩
          · simp [blkOf]
          · intro he
            simp only [blkOf, Option.some.injEq] at he
            subst he
            exact hb (show H2.n < H3.n by omega)
        exact ((Sl.apart hw hne).keep (k3'.mono fun b hb => ⟨hb.1, hb.2⟩)).mono fun b hb => Nat.lt_of_lt_of_le hb.1 k3'.1
      · exact (k13.trans (b4.mono (upA k13))).trans (k3'.mono fun b hb => by
          have hb' : b < H.n := hb
          exact ⟨by omega, by omega⟩)
    | succ d ih =>
      intro i G v hi kG hA
      have hil : i < y.size := by omega
      obtain ⟨nd, hnd⟩ : ∃ nd, (y.flat 0)[i]? = some nd := ⟨(y.flat 0)[i]'(by rw [Rx.flat_len]; exact hil), List.getElem?_eq_getElem (by rw [Rx.flat_len]; exact hil)⟩
      have hyG : Sl (all G) G 7 vb (y.flat 0).length (NDS (y.flat 0)) := by rw [Rx.flat_len]; exact hy3.keep kG
      obtain ⟨b, o, p1, _, _, p2⟩ := hyG.atN (i := i) (by rw [Rx.flat_len]; exact hil)
      rw [NDS_cut hnd] at p2
      obtain ⟨G1, c1, kk1⟩ := mov_ok (n := nd) (flat_sm y 0 (by omega) nd (List.mem_of_getElem? hnd)) (k := x.size) (by omega) G
      have hA1 := hA.keep kk1
      have kG1 : Keep (all H3) H3 G1 := kG.trans (kk1.mono (upA kG))
      have hlen : (x.flat 0 ++ (y.flat x.size).take i).length ≤ 1000000 := by rw [List.length_append, Rx.flat_len, List.length_take]; omega
      obtain ⟨G2, w, G3, b1, b2, b3, b4⟩ := snoc_ok (n := 0) hA1 kG1.1 kG1 hlen (movN x.size nd)
      have htk : x.flat 0 ++ (y.flat x.size).take i ++ [movN x.size nd] = x.flat 0 ++ (y.flat x.size).take (i + 1) := by
        rw [List.take_add_one, ay, hnd]; simp
      rw [htk] at b3
      obtain ⟨w', G', r1, r2, r3⟩ := ih (i + 1) G3 w (by omega) b4 b3
      refine ⟨w', G', Ev.step (fun n m => f25_L0.eq_2 _ _ _ _ _ _ _ _ _ _ m) ?_, r2, r3⟩
      have e : ((i : Int) < (y.size : Int)) = True := eq_true (by omega)
      simp only [ruA, ruB, ruC, ruE, ruD, lenStr, Int.reduceBEq, Int.reduceBNe, lB kG, hy.ld, e, p1, p2, lA kG, hx.ld]
      refine Ev.callC c1 ?_
      simp only [ruA, ruB, ruC, ruE, ruD, lenStr, Int.reduceBEq, Int.reduceBNe, b1, b2, idx_up (show i < 9223372036854775807 by omega)]
      exact r1
  obtain ⟨w, G', r1, r2, r3⟩ := loop y.size 0 H4 v0 (by omega) a3 (by simp only [List.take_zero, List.append_nil, Rx.flat_len]; exact a2)
  refine ⟨w, G', Ev.enter (fun n => f25_eq rfl n _ _ _ _) ?_, r2, r3⟩
  simp only [f25, ruA, ruB, ruC, ruE, ruD, lenStr, Int.reduceBEq, Int.reduceBNe, nA, nB, nN, lA (Keep.refl _ _), a1]
  exact Ev.loop r1
theorem over_ok {k : Int} (hk : k = 5 ∨ k = 6) {x : Rx} {va : Value} {H : Heap} (hx : Tv H va x) (hs : x.size ≤ 100000) :
    ∃ v H', ClX 26 [.int .i64 k, .agg #[va]] H (.agg #[v]) H' ∧ Tv H' v (many k x) ∧ Keep (all H) H H' := by
  obtain ⟨ca, oa⟩ := slc_cells hx
  obtain ⟨H1, hH1⟩ : ∃ H1, H.push ⟨[va], 1, true⟩ = H1 := ⟨_, rfl⟩
  obtain ⟨H3, hH3⟩ : ∃ H3, H1.push ⟨[.slice none 0 0], 1, true⟩ = H3 := ⟨_, rfl⟩
  have n1 : H1.n = H.n + 1 := by rw [← hH1]; rfl
  have n3 : H3.n = H.n + 2 := by rw [← hH3, push_n, n1]
  have k1 : Keep (all H) H H1 := by rw [← hH1]; exact push_keep
  have k3 : Keep (all H1) H1 H3 := by rw [← hH3]; exact push_keep
  have k13 : Keep (all H) H H3 := k1.trans (k3.mono (upA k1))
  have gA : H3.get H.n = some ⟨[va], 1, true⟩ := by rw [k3.2 _ (show H.n < H1.n by omega), ← hH1]; exact push_self
  have gN : H3.get H1.n = some ⟨[.slice none 0 0], 1, true⟩ := by rw [← hH3]; exact push_self
  have nA : newV (Value.cells (.agg #[va])).toList H = some (ptr H.n 0, H1) := by rw [← hH1]; exact newA (cs := [va]) (by simp [oa])
  have nN : newV [(.slice none 0 0)] H1 = some (ptr H1.n 0, H3) := by rw [← hH3]; rfl
  have lA : ∀ {G : Heap}, Keep (all H3) H3 G → ldC (ptr H.n 0) G = some (va, G) := fun kk => ldG (by rw [kk.2 _ (show H.n < H3.n by omega)]; exact gA) rfl
  have hx3 := hx.keep k13
  have hmb : mostBytes = 140737488355328 := rfl
  have px := x.size_pos
  have hlx : (NDS (x.flat 0)).length = x.size * 7 := by rw [NDS_len, Rx.flat_len]
  obtain ⟨v0, H4, a1, a2, a3, _⟩ := (Acc.nil (R := all H3) (H := H3) (sz := 7)).appQ (by_ := 56) (Nat.le_refl _) (Sl.addend hx3) hlx (by omega)
  rw [List.nil_append, Nat.zero_add] at a2
  have hA : Acc (all H3) H4 7 v0 (x.flat 0).length (NDS (x.flat 0)) := by rw [Rx.flat_len]; exact a2
  obtain ⟨G1, w, G2, b1, b2, b3, b4⟩ := snoc_ok (n := 0) hA a3.1 a3 (by rw [Rx.flat_len]; omega) ⟨k, 0, ((x.size - 1 : Nat) : Int), 0⟩
  have ow := b3.oneC
  have gN2 : G2.get H1.n = some ⟨[.slice none 0 0], 1, true⟩ := by rw [b4.2 _ (show H1.n < H3.n by omega)]; exact gN
  obtain ⟨G3, s3, l3, k3'⟩ := wrap_end gN2 ow.2 ow.1
  have hw : Tv G2 w (many k x) := acc_tv b3 (many_flat hk x).symm
  have hn2 := b4.1
  have hn3 := a3.1
  refine ⟨w, G3, Ev.enter (fun n => f26_eq rfl n _ _ _) ?_, ?_, ?_⟩
  · have w1 : IntKind.i64.wrap ((x.size : Int) - 1) = ((x.size - 1 : Nat) : Int) := by rw [wrap_i64 (by omega) (by omega)]; omega
    have sb : sameBlk H3 H4 (blkOf (ptr H.n 0)) = true := blk_keep (by omega) a3
    simp only [f26, ruA, ruB, ruC, ruE, ruD, lenStr, Int.reduceBEq, Int.reduceBNe, nA, nN, lA (Keep.refl _ _), a1, sb, Bool.and_true, lA a3, hx.ld, w1, nd_one, b1, b2, bldV ow.2, s3, l3, Option.map_some, resM1, one1]
    exact Ev.pure _
  · have hne : blkOf w ≠ some H1.n := by
      rcases b3 with ⟨rfl, _⟩ | ⟨b, rfl, hb, _⟩
      · simp [blkOf]
      · intro he
        simp only [blkOf, Option.some.injEq] at he
        subst he
        exact hb (show H1.n < H3.n by omega)
    exact ((Sl.apart hw hne).keep (k3'.mono fun b hb => ⟨hb.1, hb.2⟩)).mono fun b hb => Nat.lt_of_lt_of_le hb.1 k3'.1
  · exact (k13.trans (b4.mono (upA k13))).trans (k3'.mono fun b hb => by
      have hb' : b < H.n := hb
      exact ⟨by omega, by omega⟩)
def sameB : List Nd → List Nd → Bool
  | [], [] => true
  | x :: xs, y :: ys => decide (sameN x y) && sameB xs ys
  | _, _ => false
theorem sameB_len : ∀ {a b : List Nd}, sameB a b = true → a.length = b.length
  | [], [], _ => rfl
  | x :: xs, y :: ys, h => by
    rw [sameB, Bool.and_eq_true] at h
    simp [sameB_len h.2]
  | [], y :: ys, h => by simp [sameB] at h
  | x :: xs, [], h => by simp [sameB] at h
theorem sameB_self : ∀ a : List Nd, sameB a a = true
  | [] => rfl
  | x :: xs => by rw [sameB, sameB_self xs, Bool.and_true, decide_eq_true_eq]; exact ⟨rfl, fun _ _ => rfl, rfl, rfl⟩
theorem same_ok {l1 l2 : List Nd} {va vb : Value} {H : Heap} (hx : Sl (all H) H 7 va l1.length (NDS l1)) (hy : Sl (all H) H 7 vb l2.length (NDS l2)) (o1 : ∀ n ∈ l1, okN n) (o2 : ∀ n ∈ l2, okN n) (hl : l1.length < 4611686018427387904) (hl2 : l2.length < 4611686018427387904) :
    ∃ H', ClX 18 [.agg #[va], .agg #[vb]] H (.bool (sameB l1 l2)) H' ∧ Keep (all H) H H' := by
  obtain ⟨ca, oa⟩ := slc_cells hx
  obtain ⟨cb, ob⟩ := slc_cells hy
  obtain ⟨H1, hH1⟩ : ∃ H1, H.push ⟨[va], 1, true⟩ = H1 := ⟨_, rfl⟩
  obtain ⟨H2, hH2⟩ : ∃ H2, H1.push ⟨[vb], 1, true⟩ = H2 := ⟨_, rfl⟩
  have n1 : H1.n = H.n + 1 := by rw [← hH1]; rfl
  have n2 : H2.n = H.n + 2 := by rw [← hH2, push_n, n1]
  have k1 : Keep (all H) H H1 := by rw [← hH1]; exact push_keep
  have k2 : Keep (all H1) H1 H2 := by rw [← hH2]; exact push_keep
  have k12 := k1.trans (k2.mono (upA k1))
  have gA : H2.get H.n = some ⟨[va], 1, true⟩ := by rw [k2.2 _ (show H.n < H1.n by omega), ← hH1]; exact push_self
  have gB : H2.get H1.n = some ⟨[vb], 1, true⟩ := by rw [← hH2]; exact push_self
  have nA : newV (Value.cells (.agg #[va])).toList H = some (ptr H.n 0, H1) := by rw [← hH1]; exact newA (cs := [va]) (by simp [oa])
  have nB : newV (Value.cells (.agg #[vb])).toList H1 = some (ptr H1.n 0, H2) := by rw [← hH2]; exact newA (cs := [vb]) (by simp [ob])
  have lA : ldC (ptr H.n 0) H2 = some (va, H2) := ldG gA rfl
  have lB : ldC (ptr H1.n 0) H2 = some (vb, H2) := ldG gB rfl
  have hx2 := (hx.keep k12).mono (upA k12)
  have hy2 := (hy.keep k12).mono (upA k12)
  refine ⟨H2, Ev.enter (fun n => f18_eq rfl n _ _ _) ?_, k12⟩
  by_cases hne : l1.length = l2.length
  · have loop : ∀ (d i : Nat), i + d = l1.length → Ev (fun n m => f18_L0 real (AX n) n m (ptr H.n 0) (ptr H1.n 0) (.int .i64 (i : Int)) H2) (.bool (sameB (l1.drop i) (l2.drop i)), H2) := by
      intro d
      induction d with
      | zero =>
        intro i hi
        obtain rfl : i = l1.length := by omega
        refine Ev.step (fun n m => f18_L0.eq_2 _ _ _ _ _ _ _ m) ?_
        have e : ((l1.length : Int) < (l1.length : Int)) = False := by simp
        rw [List.drop_length, hne, List.drop_length, ← hne]
        simp only [ruA, ruB, ruC, ruE, ruD, lenStr, Int.reduceBEq, Int.reduceBNe, lA, hx.lenS, e]
        exact Ev.pure _
      | succ d ih =>
        intro i hi
        have hil : i < l1.length := by omega
        have hil2 : i < l2.length := by omega
        obtain ⟨b, o, p1, _, _, p2⟩ := hx2.atN hil
        obtain ⟨b', o', q1, _, _, q2⟩ := hy2.atN hil2
        rw [NDS_cut (List.getElem?_eq_getElem hil)] at p2
        rw [NDS_cut (List.getElem?_eq_getElem hil2)] at q2
        refine Ev.step (fun n m => f18_L0.eq_2 _ _ _ _ _ _ _ m) ?_
        have e : ((i : Int) < (l1.length : Int)) = True := eq_true (by omega)
        rw [List.drop_eq_getElem_cons hil, List.drop_eq_getElem_cons hil2, sameB]
        have hb := b_ndneq (o1 _ (List.getElem_mem hil)) (o2 _ (List.getElem_mem hil2))
        by_cases hsm : sameN l1[i] l2[i]
        · rw [decide_eq_true hsm, Bool.true_and]
          simp only [ruA, ruB, ruC, ruE, ruD, lenStr, Int.reduceBEq, Int.reduceBNe, lA, hx.lenS, e, p1, p2, lB, q1, q2, hb, decide_eq_true hsm, idx_up (show i < 9223372036854775807 by omega)]
          exact ih (i + 1) (by omega)
        · rw [decide_eq_false hsm, Bool.false_and]
          simp only [ruA, ruB, ruC, ruE, ruD, lenStr, Int.reduceBEq, Int.reduceBNe, lA, hx.lenS, e, p1, p2, lB, q1, q2, hb, decide_eq_false hsm]
          exact Ev.pure _
    have e : ((l1.length : Int) != (l2.length : Int)) = false := by rw [hne]; simp
    simp only [f18, ruA, ruB, ruC, ruE, ruD, lenStr, Int.reduceBEq, Int.reduceBNe, nA, nB, lA, lB, hx.lenS, hy.lenS, e]
    have := loop l1.length 0 (by omega)
    simp only [List.drop_zero] at this
    exact Ev.loop this
  · have e : ((l1.length : Int) != (l2.length : Int)) = true := by rw [k_eq, decide_eq_false hne]; rfl
    have hs : sameB l1 l2 = false := by
      cases h : sameB l1 l2 with
      | false => rfl
      | true => exact absurd (sameB_len h) hne
    rw [hs]
    simp only [f18, ruA, ruB, ruC, ruE, ruD, lenStr, Int.reduceBEq, Int.reduceBNe, nA, nB, lA, lB, hx.lenS, hy.lenS, e]
    exact Ev.pure _
theorem okN_sm {n : Nd} (h : smN n) (hk : inI n.kind) : okN n := by
  obtain ⟨a, b, c, d⟩ := h
  exact ⟨hk, ⟨by omega, by omega⟩, by omega, by omega⟩
theorem flat_knd : ∀ (t : Rx) (o : Nat), ∀ n ∈ t.flat o, inI n.kind
  | .nil, o, n, hn => by simp only [Rx.flat, List.mem_cons, List.not_mem_nil, or_false] at hn; subst hn; exact ⟨by decide, by decide⟩
  | .set s, o, n, hn => by simp only [Rx.flat, List.mem_cons, List.not_mem_nil, or_false] at hn; subst hn; exact ⟨by simp, by simp⟩
  | .seq x y, o, n, hn => by
    simp only [Rx.flat, List.mem_append, List.mem_cons, List.not_mem_nil, or_false] at hn
    rcases hn with (hn | hn) | hn
    · exact flat_knd x o n hn
    · exact flat_knd y (o + x.size) n hn
    · subst hn; exact ⟨by simp, by simp⟩
  | .alt x y, o, n, hn => by
    simp only [Rx.flat, List.mem_append, List.mem_cons, List.not_mem_nil, or_false] at hn
    rcases hn with (hn | hn) | hn
    · exact flat_knd x o n hn
    · exact flat_knd y (o + x.size) n hn
    · subst hn; exact ⟨by simp, by simp⟩
  | .star x, o, n, hn => by
    simp only [Rx.flat, List.mem_append, List.mem_cons, List.not_mem_nil, or_false] at hn
    rcases hn with hn | hn
    · exact flat_knd x o n hn
    · subst hn; exact ⟨by simp, by simp⟩
  | .plus x, o, n, hn => by
    simp only [Rx.flat, List.mem_append, List.mem_cons, List.not_mem_nil, or_false] at hn
    rcases hn with hn | hn
    · exact flat_knd x o n hn
    · subst hn; exact ⟨by simp, by simp⟩
theorem flat_ok {t : Rx} (ht : t.size ≤ 1000000) : ∀ n ∈ t.flat 0, okN n := fun n hn => okN_sm (flat_sm t 0 (by omega) n hn) (flat_knd t 0 n hn)
end Go.Eng
