import Derived.Test.YtimhmmeoliagjaaDoorQK
import Derived.Test.YtimhmmeoliagjaaDoorEnhY
set_option linter.unusedVariables false
set_option linter.unusedSimpArgs false
set_option linter.unusedSectionVars false
set_option maxRecDepth 100000
namespace Go.Eng
open Go Go.Proofs

theorem eqA_run {P : Program} {t : TypeId} {a b : Array Value} {r : Bool} (h : eqA P t (.agg a) (.agg b) = some r) (w : World) : (Op.equal t (.agg a) (.agg b)).run P w = .ok r w := by
  unfold eqA at h
  split at h
  case isFalse => cases h
  rename_i hc
  simp only [Bool.and_eq_true, Bool.not_eq_true'] at hc
  split at h
  case h_2 => cases h
  rename_i b' w1 hrun
  simp only [Option.some.injEq] at h; subst h
  exact ((equalIn_free _ _ _ _ hc.1.1 hc.1.2) _ _ _ hrun).2 w
theorem mapM_rng {α : Type} {f : Nat → Option α} {g : Nat → α} (n : Nat) (h : ∀ i, i < n → f i = some (g i)) : (List.range n).mapM f = some ((List.range n).map g) := by
  have : ∀ l : List Nat, (∀ i ∈ l, i < n) → l.mapM f = some (l.map g) := by
    intro l
    induction l with
    | nil => intro _; rfl
    | cons a l ih =>
      intro hl
      rw [List.mapM_cons, h a (hl a (by simp)), ih fun i hi => hl i (by simp [hi])]
      rfl
  exact this _ fun i hi => List.mem_range.1 hi
theorem wf64 {n : Int} (h : inI n) : (Lit.int .i64 n).wf = true := by
  obtain ⟨h1, h2⟩ := h
  simp [Lit.wf, IntKind.min, IntKind.max, IntKind.bits, IntKind.signed]
  omega
theorem wfu64 {n : Nat} (h : n < 18446744073709551616) : (Lit.int .u64 (n : Int)).wf = true := by
  simp [Lit.wf, IntKind.min, IntKind.max, IntKind.bits, IntKind.signed]
  omega
theorem lits_int {d : Nat} {n : Int} (h : inI n) : Tryd.prog.keyLits (d + 1) 3 [.int .i64 n] = some [.int .i64 n] := by
  have e : Tryd.prog.underlying 3 = some (.int .i64) := Tryd.underlying3
  simp only [Program.keyLits, e, wf64 h, and_self, if_true]
theorem cells3 : Tryd.prog.cellsOf 3 = 1 := by kernel_rfl
theorem cells54 : Tryd.prog.cellsOf 54 = 1 := by kernel_rfl
theorem cells56 : Tryd.prog.cellsOf 56 = 4 := by kernel_rfl
theorem cells63 : Tryd.prog.cellsOf 63 = 7 := by kernel_rfl
theorem lits_set {d s : Nat} : Tryd.prog.keyLits (d + 1 + 1) 56 (SC s) = some [.int .u64 (wrd s 0 : Int), .int .u64 (wrd s 1 : Int), .int .u64 (wrd s 2 : Int), .int .u64 (wrd s 3 : Int)] := by
  have e : Tryd.prog.underlying 56 = some (.array 4 54) := Tryd.underlying56
  have e5 : Tryd.prog.underlying 54 = some (.int .u64) := Tryd.underlying54
  rw [Program.keyLits.eq_def]
  simp only [e, cells56, cells54]
  rw [if_pos (SC_len s)]
  rw [mapM_rng 4 (g := fun i => [Lit.int .u64 (wrd s i : Int)])]
  · rfl
  · intro i hi
    have hx : (SC s)[i]? = some (.int .u64 (wrd s i : Int)) := W4_at _ hi
    have : (List.drop (i * 1) (SC s)).take 1 = [.int .u64 (wrd s i : Int)] := by
      obtain ⟨h1, h2⟩ := List.getElem?_eq_some_iff.1 hx
      rw [Nat.mul_one, List.drop_eq_getElem_cons h1, h2]; rfl
    rw [this]
    simp only [Program.keyLits, e5, wfu64 (wrd_lt s i), and_self, if_true]
def sameS (s t : Nat) : Prop := ∀ i, i < 4 → wrd s i = wrd t i
theorem sameS_iff (s t : Nat) : sameS s t ↔ wrd s 0 = wrd t 0 ∧ wrd s 1 = wrd t 1 ∧ wrd s 2 = wrd t 2 ∧ wrd s 3 = wrd t 3 := by
  constructor
  · intro h; exact ⟨h 0 (by omega), h 1 (by omega), h 2 (by omega), h 3 (by omega)⟩
  · rintro ⟨h0, h1, h2, h3⟩ i hi
    rcases four hi with rfl | rfl | rfl | rfl <;> assumption
instance (s t : Nat) : Decidable (sameS s t) := decidable_of_iff _ (sameS_iff s t).symm
theorem set_eqA (s t : Nat) : eqA Tryd.prog 56 (.agg (SC s).toArray) (.agg (SC t).toArray) = some (decide (sameS s t)) :=
  eqA_of (q := sameS s t) (P := Tryd.prog) (t := 56) (m := 8) (xs := SC s) (ys := SC t) (by decide) (by kernel_rfl) (by kernel_rfl) (by kernel_rfl) (by kernel_rfl) rfl rfl cells56.symm cells56.symm
    (lits_set (d := Tryd.prog.types.size - 1)) (lits_set (d := Tryd.prog.types.size - 1)) (by rw [sameS_iff]; simp; omega)
theorem set_eqV (s t : Nat) : eqV Tryd.prog 56 (.agg (SC s).toArray) (.agg (SC t).toArray) = some (decide (sameS s t)) := by
  unfold eqV
  rw [Tryd.underlying56]
  exact set_eqA s t
theorem b_seteq (s t : Nat) : binB Tryd.prog .eql 56 (.agg (SC s).toArray) (.agg (SC t).toArray) = some (.bool (decide (sameS s t))) := by
  simp only [binB, set_eqV, Option.map_some]
theorem b_setneq (s t : Nat) : binB Tryd.prog .neq 56 (.agg (SC s).toArray) (.agg (SC t).toArray) = some (.bool (!decide (sameS s t))) := by
  simp only [binB, set_eqV, Option.map_some]
def sameN (x y : Nd) : Prop := x.kind = y.kind ∧ sameS x.set y.set ∧ x.a = y.a ∧ x.b = y.b
instance (x y : Nd) : Decidable (sameN x y) := by unfold sameN; infer_instance
def okN (x : Nd) : Prop := inI x.kind ∧ inI x.a ∧ inI x.b
theorem lits_nd {d : Nat} {x : Nd} (h : okN x) : Tryd.prog.keyLits (d + 3) 63 (ND x) = some [.int .i64 x.kind, .int .u64 (wrd x.set 0 : Int), .int .u64 (wrd x.set 1 : Int), .int .u64 (wrd x.set 2 : Int), .int .u64 (wrd x.set 3 : Int), .int .i64 x.a, .int .i64 x.b] := by
  obtain ⟨fs, hu, hfs, hn⟩ : ∃ fs : Array Field, Tryd.prog.underlying 63 = some (.struct fs) ∧ fs.toList.map (fun f => (f.type, f.offset)) = [(3, 0), (56, 1), (3, 5), (3, 6)] ∧ fs.all (·.name != "_") = true := ⟨_, Tryd.underlying63, by kernel_rfl, by kernel_rfl⟩
  rw [keyLits_struct hu]
  have hl : (ND x).length = 7 := rfl
  simp only [cells63, hn, hl, and_self, if_true]
  have : ∀ (l : List Field) (ps : List (TypeId × Nat)), l.map (fun f => (f.type, f.offset)) = ps → (l.mapM fun f => Tryd.prog.keyLits (d + 2) f.type ((ND x).drop f.offset |>.take (Tryd.prog.cellsOf f.type))) = ps.mapM fun p => Tryd.prog.keyLits (d + 2) p.1 ((ND x).drop p.2 |>.take (Tryd.prog.cellsOf p.1)) := by
    intro l ps h; subst h; rw [List.mapM_map]; rfl
  rw [this _ _ hfs]
  have h0 : ((ND x).drop 0).take 1 = [.int .i64 x.kind] := rfl
  have h1 : ((ND x).drop 1).take 4 = SC x.set := rfl
  have h5 : ((ND x).drop 5).take 1 = [.int .i64 x.a] := rfl
  have h6 : ((ND x).drop 6).take 1 = [.int .i64 x.b] := rfl
  simp only [List.mapM_cons, List.mapM_nil, cells3, cells56, h0, h1, h5, h6, lits_int h.1, lits_int h.2.1, lits_int h.2.2, lits_set]
  rfl
theorem nd_eqV {x y : Nd} (hx : okN x) (hy : okN y) : eqV Tryd.prog 63 (.agg (ND x).toArray) (.agg (ND y).toArray) = some (decide (sameN x y)) := by
  have h := eqA_of (q := sameN x y) (P := Tryd.prog) (t := 63) (m := 8) (xs := ND x) (ys := ND y) (by decide) (by kernel_rfl) (by kernel_rfl) (by kernel_rfl) (by kernel_rfl) rfl rfl cells63.symm cells63.symm
    (lits_nd (d := Tryd.prog.types.size - 2) hx) (lits_nd (d := Tryd.prog.types.size - 2) hy) (by rw [sameN, sameS_iff]; simp [and_assoc]; omega)
  unfold eqV
  rw [Tryd.underlying63]
  exact h
theorem b_ndneq {x y : Nd} (hx : okN x) (hy : okN y) : binB Tryd.prog .neq 63 (.agg (ND x).toArray) (.agg (ND y).toArray) = some (.bool (!decide (sameN x y))) := by
  simp only [binB, nd_eqV hx hy, Option.map_some]
end Go.Eng
