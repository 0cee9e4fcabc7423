/- Arrays that are the same; digits read. -/
import Derived.Test.YtmajmmknpajcgaaSO
import Derived.Test.YtmajmmknpajcgaaEnhY
set_option linter.unusedVariables false
set_option linter.unusedSimpArgs false
set_option linter.unusedSectionVars false
set_option maxRecDepth 100000
namespace Go.Eng
open Go Go.Proofs

/-! ### arrays that are the same -/
theorem mapM_rng {α : Type} {f : Nat → Option α} {g : Nat → α} (n : Nat) (h : ∀ i, i < n → f i = some (g i)) : (List.range n).mapM f = some ((List.range n).map g) := by
  have : ∀ l : List Nat, (∀ i ∈ l, i < n) → l.mapM f = some (l.map g) := by
    intro l
    induction l with
    | nil => intro _; rfl
    | cons a l ih =>
      intro hl
      rw [List.mapM_cons, h a (hl a (by simp)), ih fun i hi => hl i (by simp [hi])]
      rfl
  exact this _ fun i hi => List.mem_range.1 hi
theorem cut1 {cs : List Value} {i : Nat} {v : Value} (h : cs[i]? = some v) : (cs.drop (i * 1)).take 1 = [v] := by
  obtain ⟨h1, h2⟩ := List.getElem?_eq_some_iff.1 h
  rw [Nat.mul_one, List.drop_eq_getElem_cons h1, h2]; rfl
theorem lits_bytes {d : Nat} {l : List Nat} (hl : l.length = 32) (hb : ∀ c ∈ l, c < 256) : Try.prog.keyLits (d + 1 + 1) 35 (B l) = some ((List.range 32).map fun i => [Lit.int .u8 ((l.getD i 0 : Nat) : Int)]).flatten := by
  have e : Try.prog.underlying 35 = some (.array 32 5) := Try.underlying35
  have e5 : Try.prog.underlying 5 = some (.int .u8) := Try.underlying5
  have c35 : Try.prog.cellsOf 35 = 32 := by kernel_rfl
  have c5 : Try.prog.cellsOf 5 = 1 := by kernel_rfl
  rw [Program.keyLits.eq_def]
  simp only [e, c35, c5]
  rw [if_pos (by rw [B_length, hl])]
  rw [mapM_rng 32 (g := fun i => [Lit.int .u8 ((l.getD i 0 : Nat) : Int)])]
  · rfl
  · intro i hi
    have hx : l[i]? = some (l.getD i 0) := by rw [List.getD_eq_getElem?_getD, List.getElem?_eq_getElem (by omega)]; rfl
    have h256 := hb _ (List.mem_of_getElem? hx)
    rw [cut1 (B_at hx)]
    have hw : (Lit.int .u8 ((l.getD i 0 : Nat) : Int)).wf = true := by
      generalize l.getD i 0 = z at h256
      simp only [Lit.wf, IntKind.min, IntKind.max, IntKind.bits, IntKind.signed]
      simp; omega
    simp only [Program.keyLits, e5, hw, and_self, if_true]
theorem lits_words {d : Nat} {l : List UInt32} (hl : l.length = 8) : Try.prog.keyLits (d + 1 + 1) 28 (WC l) = some ((List.range 8).map fun i => [Lit.int .u32 (((l.getD i 0).toNat : Nat) : Int)]).flatten := by
  have e : Try.prog.underlying 28 = some (.array 8 22) := Try.underlying28
  have e5 : Try.prog.underlying 22 = some (.int .u32) := Try.underlying22
  have c35 : Try.prog.cellsOf 28 = 8 := by kernel_rfl
  have c5 : Try.prog.cellsOf 22 = 1 := by kernel_rfl
  rw [Program.keyLits.eq_def]
  simp only [e, c35, c5]
  rw [if_pos (by rw [WC_len, hl])]
  rw [mapM_rng 8 (g := fun i => [Lit.int .u32 (((l.getD i 0).toNat : Nat) : Int)])]
  · rfl
  · intro i hi
    have hx : l[i]? = some (l.getD i 0) := by rw [List.getD_eq_getElem?_getD, List.getElem?_eq_getElem (by omega)]; rfl
    have hlt := (l.getD i 0).toNat_lt
    rw [cut1 (WC_at hx)]
    have hw : (Lit.int .u32 (((l.getD i 0).toNat : Nat) : Int)).wf = true := by
      generalize (l.getD i 0).toNat = z at hlt
      simp only [Lit.wf, IntKind.min, IntKind.max, IntKind.bits, IntKind.signed]
      simp; omega
    unfold iv
    simp only [Program.keyLits, e5, hw, and_self, if_true]
theorem eq_bytes {l : List Nat} (hl : l.length = 32) (hb : ∀ c ∈ l, c < 256) : binB Try.prog .eql 35 (.agg (B l).toArray) (.agg (B l).toArray) = some (.bool true) := by
  have c35 : Try.prog.cellsOf 35 = 32 := by kernel_rfl
  have hf : (B l).all flat1 = true := by simp [B, flat1]
  have h := eqA_of (q := True) (P := Try.prog) (t := 35) (m := 8) (xs := B l) (ys := B l) (by decide) (by kernel_rfl) (by kernel_rfl) (by kernel_rfl) (by kernel_rfl) hf hf (by rw [B_length, hl, c35]) (by rw [B_length, hl, c35])
    (lits_bytes (d := Try.prog.types.size - 1) hl hb) (lits_bytes (d := Try.prog.types.size - 1) hl hb) (by simp)
  have e : eqV Try.prog 35 (.agg (B l).toArray) (.agg (B l).toArray) = some true := by
    unfold eqV
    rw [Try.underlying35]
    rw [decide_true] at h
    exact h
  simp only [binB, e, Option.map_some]
theorem eq_words {l : List UInt32} (hl : l.length = 8) : binB Try.prog .eql 28 (.agg (WC l).toArray) (.agg (WC l).toArray) = some (.bool true) := by
  have c35 : Try.prog.cellsOf 28 = 8 := by kernel_rfl
  have hf : (WC l).all flat1 = true := by simp [WC, iv, flat1]
  have h := eqA_of (q := True) (P := Try.prog) (t := 28) (m := 8) (xs := WC l) (ys := WC l) (by decide) (by kernel_rfl) (by kernel_rfl) (by kernel_rfl) (by kernel_rfl) hf hf (by rw [WC_len, hl, c35]) (by rw [WC_len, hl, c35])
    (lits_words (d := Try.prog.types.size - 1) hl) (lits_words (d := Try.prog.types.size - 1) hl) (by simp)
  have e : eqV Try.prog 28 (.agg (WC l).toArray) (.agg (WC l).toArray) = some true := by
    unfold eqV
    rw [Try.underlying28]
    rw [decide_true] at h
    exact h
  simp only [binB, e, Option.map_some]

/-! ### digits read -/
/-- A digit's worth; -1: it is none. -/
def hexV (c : UInt8) : Int := Lib.indexByte hexT c
def hexOk (c : UInt8) : Bool := decide (hexV c = -1) || (decide (0 ≤ hexV c) && decide (hexV c < 16) && (hexD (hexV c).toNat == c))
theorem hexOk_all : ((List.range 256).all fun n => hexOk (UInt8.ofNat n)) = true := by kernel_rfl
theorem hexV_or (c : UInt8) : hexV c = -1 ∨ ∃ k : Nat, k < 16 ∧ hexV c = (k : Int) ∧ hexD k = c := by
  have h := List.all_eq_true.1 hexOk_all c.toNat (List.mem_range.2 c.toNat_lt)
  rw [UInt8.ofNat_toNat] at h
  simp only [hexOk, Bool.or_eq_true, Bool.and_eq_true, decide_eq_true_eq, beq_iff_eq] at h
  rcases h with h | ⟨⟨h1, h2⟩, h3⟩
  · exact .inl h
  · exact .inr ⟨(hexV c).toNat, by omega, by omega, h3⟩
theorem hexV_D : ((List.range 16).all fun k => decide (hexV (hexD k) = (k : Int))) = true := by kernel_rfl
theorem hexV_of {k : Nat} (h : k < 16) : hexV (hexD k) = (k : Int) := by
  have := List.all_eq_true.1 hexV_D k (List.mem_range.2 h)
  simpa using this
theorem index_cl (c : UInt8) (H : Heap) : Cl 43 [.string ⟨#[48, 49, 50, 51, 52, 53, 54, 55, 56, 57, 97, 98, 99, 100, 101, 102]⟩, .int .u8 (c.toNat : Int)] H (.int .i64 (hexV c)) H := by
  refine Ev.enter (fun n => f43_eq rfl n _ _ _) ?_
  have h56 : Cl 56 [.string ⟨#[48, 49, 50, 51, 52, 53, 54, 55, 56, 57, 97, 98, 99, 100, 101, 102]⟩, .int .u8 (c.toNat : Int)] H (.int .i64 (hexV c)) H := by
    refine Ev.enter (fun n => f56_eq rfl n _ _ _) ?_
    refine Ev.callC (ClP.extern Try.func58 (by kernel_rfl) (by kernel_rfl) (by kernel_rfl) (show idxX _ H = some (.int .i64 (hexV c), H) from ?_)) ?_
    · simp only [idxX]
      congr 3
      show Lib.indexByte hexT _ = _
      simp [hexV]
    · exact Ev.pure _
  refine Ev.callC h56 ?_
  exact Ev.pure _
/-- Pairs of digits, read. -/
def parL : List UInt8 → Option (List Nat)
  | a :: b :: r => if hexV a < 0 ∨ hexV b < 0 then none else (parL r).map ((16 * (hexV a).toNat + (hexV b).toNat) :: ·)
  | _ => some []
def parR (l : List UInt8) : List Nat × Int := if l.length = 64 then (match parL l with | some ds => (ds, 0) | none => (List.replicate 32 0, 4)) else (List.replicate 32 0, 4)
theorem parL_len : ∀ {l : List UInt8} {ds : List Nat}, parL l = some ds → ds.length = l.length / 2
  | [], ds, h => by simp [parL] at h; subst h; rfl
  | [a], ds, h => by simp [parL] at h; subst h; simp
  | a :: b :: r, ds, h => by
    simp only [parL] at h
    split at h
    · cases h
    · simp only [Option.map_eq_some_iff] at h
      obtain ⟨e, he, rfl⟩ := h
      have := parL_len he
      simp only [List.length_cons]; omega
theorem parL_byte : ∀ {l : List UInt8} {ds : List Nat}, parL l = some ds → ∀ c ∈ ds, c < 256
  | [], ds, h => by simp [parL] at h; subst h; simp
  | [a], ds, h => by simp [parL] at h; subst h; simp
  | a :: b :: r, ds, h => by
    simp only [parL] at h
    split at h
    · cases h
    · rename_i hn
      simp only [Option.map_eq_some_iff] at h
      obtain ⟨e, he, rfl⟩ := h
      intro c hc
      rcases List.mem_cons.1 hc with rfl | hc
      · rcases hexV_or a with h1 | ⟨k, k1, k2, _⟩
        · omega
        rcases hexV_or b with h2 | ⟨m, m1, m2, _⟩
        · omega
        rw [k2, m2]; simp; omega
      · exact parL_byte he c hc
theorem parR_len (l : List UInt8) : (parR l).1.length = 32 := by
  unfold parR
  split
  · rename_i h
    split
    · rename_i ds hd; have := parL_len hd; simp only; omega
    · simp
  · simp
theorem parR_byte (l : List UInt8) : ∀ c ∈ (parR l).1, c < 256 := by
  unfold parR
  have hz : ∀ c ∈ List.replicate 32 0, c < 256 := fun c hc => by rw [List.mem_replicate] at hc; omega
  split
  · split
    · rename_i ds hd; exact parL_byte hd
    · exact hz
  · exact hz
/-- What was written is read unchanged. -/
theorem par_hex : ∀ (ds : List UInt8), parL (hexL ds) = some (U ds)
  | [] => rfl
  | x :: l => by
    have hx := x.toNat_lt
    have h1 := hexV_of (k := x.toNat / 16) (by omega)
    have h2 := hexV_of (k := x.toNat % 16) (by omega)
    show parL (hexD (x.toNat / 16) :: hexD (x.toNat % 16) :: hexL l) = _
    simp only [parL, h1, h2, par_hex l]
    rw [if_neg (by omega)]
    simp only [Option.map_some, Option.some.injEq, U, List.map_cons, List.cons.injEq, and_true]
    omega
/-- What can be read is written so. -/
theorem hex_par : ∀ {l : List UInt8} {ds : List Nat}, l.length % 2 = 0 → parL l = some ds → hexN ds = l
  | [], ds, _, h => by simp [parL] at h; subst h; rfl
  | [a], ds, hl, h => by simp at hl
  | a :: b :: r, ds, hl, h => by
    simp only [parL] at h
    split at h
    · cases h
    · rename_i hn
      simp only [Option.map_eq_some_iff] at h
      obtain ⟨e, he, rfl⟩ := h
      have hr := hex_par (l := r) (by simp only [List.length_cons] at hl; omega) he
      rcases hexV_or a with h1 | ⟨k, k1, k2, k3⟩
      · omega
      rcases hexV_or b with h2 | ⟨m, m1, m2, m3⟩
      · omega
      unfold hexN at hr ⊢
      rw [List.map_cons]
      have hu : (UInt8.ofNat (16 * (hexV a).toNat + (hexV b).toNat)).toNat = 16 * k + m := by rw [k2, m2]; simp; omega
      show hexD ((UInt8.ofNat (16 * (hexV a).toNat + (hexV b).toNat)).toNat / 16) :: hexD ((UInt8.ofNat (16 * (hexV a).toNat + (hexV b).toNat)).toNat % 16) :: hexL (e.map UInt8.ofNat) = _
      rw [hu, hr, show (16 * k + m) / 16 = k by omega, show (16 * k + m) % 16 = m by omega, k3, m3]
end Go.Eng
