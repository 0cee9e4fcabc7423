/- Levels, patterns, productions of two grammars. -/
import Derived.Test.YtjnpiaigiljpjaaKQ
import Derived.Test.YtjnpiaigiljpjaaEngY
set_option linter.unusedVariables false
set_option linter.unusedSimpArgs false
set_option maxRecDepth 100000
namespace Go.Eng
open Go Go.Proofs

theorem wf64 {n : Int} (h : inI n) : (Lit.int .i64 n).wf = true := by
  obtain ⟨h1, h2⟩ := h
  simp [Lit.wf, IntKind.min, IntKind.max, IntKind.bits, IntKind.signed]
  omega
theorem lits_int {d : Nat} {n : Int} (h : inI n) : Try.prog.keyLits (d + 1) 3 [.int .i64 n] = some [.int .i64 n] := by
  have e : Try.prog.underlying 3 = some (.int .i64) := Try.underlying3
  simp only [Program.keyLits, e, wf64 h, and_self, if_true]
theorem lits_str {d : Nat} {s : ByteArray} (h : s.size ≤ maxLen) : Try.prog.keyLits (d + 1) 9 [.string s] = some [.string s.data.toList] := by
  have e : Try.prog.underlying 9 = some .string := Try.underlying9
  simp only [Program.keyLits, e, if_pos h]
theorem cells3 : Try.prog.cellsOf 3 = 1 := by kernel_rfl
theorem cells9 : Try.prog.cellsOf 9 = 1 := by kernel_rfl
theorem cells53 : Try.prog.cellsOf 53 = 2 := by kernel_rfl
theorem cells51 : Try.prog.cellsOf 51 = 2 := by kernel_rfl
theorem lits_lv {d : Nat} {a b : Int} (ha : inI a) (hb : inI b) : Try.prog.keyLits (d + 2) 53 [.int .i64 a, .int .i64 b] = some [.int .i64 a, .int .i64 b] := by
  obtain ⟨fs, hu, hfs, hn⟩ : ∃ fs : Array Field, Try.prog.underlying 53 = some (.struct fs) ∧ fs.toList.map (fun f => (f.type, f.offset)) = [(3, 0), (3, 1)] ∧ fs.all (·.name != "_") = true := ⟨_, Try.underlying53, by kernel_rfl, by kernel_rfl⟩
  rw [keyLits_struct hu]
  simp only [cells53, hn, List.length_cons, List.length_nil, and_self, if_true]
  have : ∀ (l : List Field) (ps : List (TypeId × Nat)), l.map (fun f => (f.type, f.offset)) = ps → (l.mapM fun f => Try.prog.keyLits (d + 1) f.type (([.int .i64 a, .int .i64 b] : List Value).drop f.offset |>.take (Try.prog.cellsOf f.type))) = ps.mapM fun p => Try.prog.keyLits (d + 1) p.1 (([.int .i64 a, .int .i64 b] : List Value).drop p.2 |>.take (Try.prog.cellsOf p.1)) := by
    intro l ps h; subst h; rw [List.mapM_map]; rfl
  rw [this _ _ hfs]
  simp [cells3, lits_int ha, lits_int hb]
theorem lits_pt {d : Nat} {a : Int} {s : ByteArray} (ha : inI a) (hs : s.size ≤ maxLen) : Try.prog.keyLits (d + 2) 51 [.int .i64 a, .string s] = some [.int .i64 a, .string s.data.toList] := by
  obtain ⟨fs, hu, hfs, hn⟩ : ∃ fs : Array Field, Try.prog.underlying 51 = some (.struct fs) ∧ fs.toList.map (fun f => (f.type, f.offset)) = [(3, 0), (9, 1)] ∧ fs.all (·.name != "_") = true := ⟨_, Try.underlying51, by kernel_rfl, by kernel_rfl⟩
  rw [keyLits_struct hu]
  simp only [cells51, hn, List.length_cons, List.length_nil, and_self, if_true]
  have : ∀ (l : List Field) (ps : List (TypeId × Nat)), l.map (fun f => (f.type, f.offset)) = ps → (l.mapM fun f => Try.prog.keyLits (d + 1) f.type (([.int .i64 a, .string s] : List Value).drop f.offset |>.take (Try.prog.cellsOf f.type))) = ps.mapM fun p => Try.prog.keyLits (d + 1) p.1 (([.int .i64 a, .string s] : List Value).drop p.2 |>.take (Try.prog.cellsOf p.1)) := by
    intro l ps h; subst h; rw [List.mapM_map]; rfl
  rw [this _ _ hfs]
  simp [cells3, cells9, lits_int ha, lits_str hs]
theorem b_lvneq {x y : Lv} (hx : inI x.N ∧ inI x.K) (hy : inI y.N ∧ inI y.K) : binB Try.prog .neq 53 (.agg [.int .i64 x.N, .int .i64 x.K].toArray) (.agg [.int .i64 y.N, .int .i64 y.K].toArray) = some (.bool (!decide (x = y))) := by
  have h := eqA_of (q := x = y) (P := Try.prog) (t := 53) (m := 8) (xs := [.int .i64 x.N, .int .i64 x.K]) (ys := [.int .i64 y.N, .int .i64 y.K]) (by decide) (by kernel_rfl) (by kernel_rfl) (by kernel_rfl) (by kernel_rfl) rfl rfl cells53.symm cells53.symm
    (lits_lv (d := Try.prog.types.size - 1) hx.1 hx.2) (lits_lv (d := Try.prog.types.size - 1) hy.1 hy.2) (by cases x; cases y; simp)
  have e : eqV Try.prog 53 (.agg [.int .i64 x.N, .int .i64 x.K].toArray) (.agg [.int .i64 y.N, .int .i64 y.K].toArray) = some (decide (x = y)) := by
    unfold eqV
    rw [Try.underlying53]
    exact h
  simp only [binB, e, Option.map_some]
theorem b_pteq {x y : Pt} (hx : inI x.T ∧ x.P.size ≤ maxLen) (hy : inI y.T ∧ y.P.size ≤ maxLen) : binB Try.prog .neq 51 (.agg [.int .i64 x.T, .string x.P].toArray) (.agg [.int .i64 y.T, .string y.P].toArray) = some (.bool (!decide (x = y))) := by
  have h := eqA_of (q := x = y) (P := Try.prog) (t := 51) (m := 8) (xs := [.int .i64 x.T, .string x.P]) (ys := [.int .i64 y.T, .string y.P]) (by decide) (by kernel_rfl) (by kernel_rfl) (by kernel_rfl) (by kernel_rfl) rfl rfl cells51.symm cells51.symm
    (lits_pt (d := Try.prog.types.size - 1) hx.1 hx.2) (lits_pt (d := Try.prog.types.size - 1) hy.1 hy.2) (by
      cases x; cases y
      simp only [List.cons.injEq, Lit.int.injEq, Lit.string.injEq, true_and, and_true, Pt.mk.injEq]
      exact ⟨fun ⟨a, b⟩ => ⟨a, WideShapes.bytes_inj b⟩, fun ⟨a, b⟩ => ⟨a, by rw [b]⟩⟩)
  have e : eqV Try.prog 51 (.agg [.int .i64 x.T, .string x.P].toArray) (.agg [.int .i64 y.T, .string y.P].toArray) = some (decide (x = y)) := by
    unfold eqV
    rw [Try.underlying51]
    exact h
  simp only [binB, e, Option.map_some]
end Go.Eng
