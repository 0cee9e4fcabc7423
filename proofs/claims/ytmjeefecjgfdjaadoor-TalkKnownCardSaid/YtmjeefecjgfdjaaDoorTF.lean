/- Is a text a path? -/
import Derived.Test.YtmjeefecjgfdjaaDoorTE
import Derived.Test.YtmjeefecjgfdjaaDoorEngZ
set_option linter.unusedVariables false
set_option linter.unusedSimpArgs false
namespace Go.Eng
open Go Go.Proofs

def PB : List UInt8 := [97, 98, 99, 100, 101, 102, 103, 104, 105, 106, 107, 108, 109, 110, 111, 112, 113, 114, 115, 116, 117, 118, 119, 120, 121, 122, 48, 49, 50, 51, 52, 53, 54, 55, 56, 57, 46, 95, 45, 47]
def inp (c : UInt8) : Bool := decide (c ∈ PB)
/-- Is a text a path? -/
def isP (l : List UInt8) : Bool := decide (1 ≤ l.length) && decide (l.length ≤ 32) && l.all inp
/-- A set of bytes, as cells. -/
def SET (l : List UInt8) : List Value := (List.range 256).map fun c => .bool (decide (UInt8.ofNat c ∈ l))
theorem SET_at {l : List UInt8} {c : UInt8} : (SET l)[c.toNat]? = some (.bool (decide (c ∈ l))) := by
  have := c.toNat_lt
  simp [SET, List.getElem?_range this]
theorem SET_set {l : List UInt8} {c : UInt8} : (SET l).set c.toNat (.bool true) = SET (l ++ [c]) := by
  have hc := c.toNat_lt
  apply List.ext_getElem (by simp [SET])
  intro i h1 h2
  have hi : i < 256 := by simpa [SET] using h2
  rw [List.getElem_set]
  split
  · rename_i h
    subst h
    simp [SET]
  · rename_i h
    have : ¬ UInt8.ofNat i = c := fun h' => h (by rw [← h']; show i % 256 = i; omega)
    simp [SET, this]
theorem push_updE {H : Heap} {a b : Blk} : (H.push a).upd H.n (some b) = H.push b := by
  unfold Heap.push Heap.upd
  congr 1
  funext i
  by_cases h : i = H.n <;> simp [h]
theorem SET_len {l : List UInt8} : (SET l).length = 256 := by simp [SET]
theorem SET_all {l : List UInt8} : (SET l).all oneC = true := by
  rw [List.all_eq_true]
  intro v hv
  simp only [SET, List.mem_map] at hv
  obtain ⟨c, _, rfl⟩ := hv
  rfl
theorem iA_set {b : Nat} {c : UInt8} : iAddrA 256 1 (ptr b 0) (.int .u8 (c.toNat : Int)) = some (ptr b c.toNat) := by
  have := c.toNat_lt
  simp only [iAddrA]
  rw [if_pos (by omega)]
  simp
theorem set_new {H : Heap} {n : Nat} {x : Value} : f67 real (AC n) n x H = f67_L0 real (AC n) n n x (ptr H.n 0) (.int .i64 ((0 : Nat) : Int)) (H.push ⟨SET [], 1, true⟩) := by kernel_rfl
theorem ldA_push {H : Heap} {cs : List Value} {n : Nat} (hn : n = cs.length) : Eng.ldA n (ptr H.n 0) (H.push ⟨cs, 1, true⟩) = some (.agg cs.toArray, H.push ⟨cs, 1, true⟩) := push_boxA.all hn
theorem stA_push {H : Heap} {cs ds : List Value} {n : Nat} (hn : cs.length = n) (hd : ds.length = n) (h : ds.all oneC = true) : stV n (ptr H.n 0) (.agg ds.toArray) (H.push ⟨cs, 1, true⟩) = some (undef, H.push ⟨ds, 1, true⟩) := by
  rw [push_st hn hd h, push_updE]
theorem st1_push {H : Heap} {cs : List Value} {k : Nat} {w : Value} (hk : k < cs.length) (hc : w.cells = #[w]) (h1 : oneC w = true) : stV 1 (ptr H.n k) w (H.push ⟨cs, 1, true⟩) = some (undef, H.push ⟨cs.set k w, 1, true⟩) := by
  rw [stV1_box push_self hk hc h1, push_updE]
theorem resM2 {a b : Value} : resM [some a, some b] = some [a, b] := nr _
theorem one2 {a b : Value} : one [a, b] = .tuple #[a, b] := nr _
theorem set_loop {H : Heap} {l : List UInt8} (hl : ∀ c ∈ l, c.toNat < 128) (hb : l.length < 9223372036854775807) : ∀ (k i : Nat), i + k = l.length →
    Ev (fun n m => f67_L0 real (AC n) n m (.string (bs l)) (ptr H.n 0) (.int .i64 (i : Int)) (H.push ⟨SET (l.take i), 1, true⟩)) (.tuple #[.agg (SET l).toArray, .bool true], H.push ⟨SET l, 1, true⟩) := by
  intro k
  induction k with
  | zero =>
    intro i hi
    refine Ev.step (fun n m => f67_L0.eq_2 _ _ _ _ _ _ _ _) ?_
    rw [List.take_of_length_le (by omega)]
    simp only [real_b, real_i, real_c, chk_t, bnd_some, bnd_up, iff_t, iff_f, gd_t, gd_f, wd_b, wd_u, pick_t, pick_f, b_lss, b_leq, b_gtr, b_geq, b_eql, b_neq, b_seql, b_sneq, b_add, b_sub, u_not, nilC_ptr, fAddr_ptr, Nat.zero_add, extr0, extr1, extr2, lenStr, decide_true, decide_false, bt_tt, bt_tf, bt_ft, bt_ff, bt_bne, Bool.not_true, Bool.not_false, Int.reduceBEq, Int.reduceBNe, extr30, extr31, bs_size, idx_ge (show l.length ≤ i by omega), ldA_push (show 256 = (SET l).length from SET_len.symm), stA_push SET_len SET_len SET_all, Option.map_some, resM2, one2]
    exact Ev.pure _
  | succ k ih =>
    intro i hi
    obtain ⟨c, hc, hd⟩ := drop_at (l := l) (i := i) (by omega)
    have h128 := hl c (mem_at hc)
    have e : ((c.toNat : Int) ≥ 128) = False := by simp; omega
    refine Ev.step (fun n m => f67_L0.eq_2 _ _ _ _ _ _ _ _) ?_
    simp only [real_b, real_i, real_c, chk_t, bnd_some, bnd_up, iff_t, iff_f, gd_t, gd_f, wd_b, wd_u, pick_t, pick_f, b_lss, b_leq, b_gtr, b_geq, b_eql, b_neq, b_seql, b_sneq, b_add, b_sub, u_not, nilC_ptr, fAddr_ptr, Nat.zero_add, extr0, extr1, extr2, lenStr, decide_true, decide_false, bt_tt, bt_tf, bt_ft, bt_ff, bt_bne, Bool.not_true, Bool.not_false, Int.reduceBEq, Int.reduceBNe, extr30, extr31, bs_size, idx_lt (show i < l.length by omega), bs_idx hc, e, iA_set, st1_push (show c.toNat < (SET (l.take i)).length by rw [SET_len]; omega) (w := .bool true) rfl rfl, idx_up (show i < 9223372036854775807 by omega)]
    have := ih (i + 1) (by omega)
    rw [SET_set]
    have e2 : l.take (i + 1) = l.take i ++ [c] := by
      rw [List.take_add_one, hc]; rfl
    rw [e2] at this
    exact this
theorem PB_low : ∀ c ∈ PB, c.toNat < 128 := by decide
theorem PB_set (H : Heap) : Cl 67 [.string (bs PB)] H (.tuple #[.agg (SET PB).toArray, .bool true]) (H.push ⟨SET PB, 1, true⟩) := by
  refine Ev.enter (fun n => f67_eq rfl n _ _) ?_
  refine Ev.congr (fun n m => set_new) ?_
  exact (set_loop PB_low (by decide) PB.length 0 (by omega)).loop
theorem has_ok {R : Nat → Prop} {H : Heap} {b : Nat} {l : List UInt8} {c : UInt8} (h : Box R H b (SET l)) : Cl 77 [ptr b 0, .int .u8 (c.toNat : Int)] H (.bool (decide (c ∈ l))) H := by
  refine Ev.enter (fun n => f77_eq rfl n _ _ _) ?_
  simp only [f77, real_b, real_i, real_c, chk_t, bnd_some, bnd_up, iff_t, iff_f, gd_t, gd_f, wd_b, wd_u, pick_t, pick_f, b_lss, b_leq, b_gtr, b_geq, b_eql, b_neq, b_seql, b_sneq, b_add, b_sub, u_not, nilC_ptr, fAddr_ptr, Nat.zero_add, extr0, extr1, extr2, lenStr, decide_true, decide_false, bt_tt, bt_tf, bt_ft, bt_ff, bt_bne, Bool.not_true, Bool.not_false, Int.reduceBEq, Int.reduceBNe, extr30, extr31, iA_set, h.ld SET_at]
  exact Ev.pure _
def trR (l : List UInt8) : List UInt8 := (l.reverse.dropWhile inp).reverse
theorem right_ok {R : Nat → Prop} {H : Heap} {b : Nat} (h : Box R H b (SET PB)) : ∀ (k : Nat) (l : List UInt8), l.length = k → k < 9223372036854775807 →
    Ev (fun n m => f69_L0 real (AC n) n m (.string (bs l)) (ptr b 0) H) (.string (bs (trR l)), H) := by
  intro k
  induction k with
  | zero =>
    intro l hl _
    obtain rfl := List.length_eq_zero_iff.1 hl
    refine Ev.step (fun n m => f69_L0.eq_2 _ _ _ _ _ _ _) ?_
    have e : (((([] : List UInt8).length : Nat) : Int) > 0) = False := by simp
    simp only [real_b, real_i, real_c, chk_t, bnd_some, bnd_up, iff_t, iff_f, gd_t, gd_f, wd_b, wd_u, pick_t, pick_f, b_lss, b_leq, b_gtr, b_geq, b_eql, b_neq, b_seql, b_sneq, b_add, b_sub, u_not, nilC_ptr, fAddr_ptr, Nat.zero_add, extr0, extr1, extr2, lenStr, decide_true, decide_false, bt_tt, bt_tf, bt_ft, bt_ff, bt_bne, Bool.not_true, Bool.not_false, Int.reduceBEq, Int.reduceBNe, extr30, extr31, bs_size, e]
    exact Ev.pure _
  | succ k ih =>
    intro l hl hk
    rcases List.eq_nil_or_concat l with rfl | ⟨l', c, rfl⟩
    · simp at hl
    · simp only [List.concat_eq_append, List.length_append, List.length_cons, List.length_nil] at hl
      rw [List.concat_eq_append]
      have hl' : l'.length = k := by omega
      have e : ((((l' ++ [c]).length : Nat) : Int) > 0) = True := by simp
      have e2 : IntKind.i64.wrap ((((l' ++ [c]).length : Nat) : Int) - 1) = ((l'.length : Nat) : Int) := by
        rw [List.length_append, List.length_singleton, wrap_i64 (by omega) (by omega)]; omega
      have e3 : (l' ++ [c])[l'.length]? = some c := by simp
      refine Ev.step (fun n m => f69_L0.eq_2 _ _ _ _ _ _ _) ?_
      simp only [real_b, real_i, real_c, chk_t, bnd_some, bnd_up, iff_t, iff_f, gd_t, gd_f, wd_b, wd_u, pick_t, pick_f, b_lss, b_leq, b_gtr, b_geq, b_eql, b_neq, b_seql, b_sneq, b_add, b_sub, u_not, nilC_ptr, fAddr_ptr, Nat.zero_add, extr0, extr1, extr2, lenStr, decide_true, decide_false, bt_tt, bt_tf, bt_ft, bt_ff, bt_bne, Bool.not_true, Bool.not_false, Int.reduceBEq, Int.reduceBNe, extr30, extr31, bs_size, e, e2, bs_idx e3]
      refine Ev.callC (has_ok h) ?_
      by_cases hc : c ∈ PB
      · have e4 : decide (c ∈ PB) = true := decide_eq_true hc
        simp only [real_b, real_i, real_c, chk_t, bnd_some, bnd_up, iff_t, iff_f, gd_t, gd_f, wd_b, wd_u, pick_t, pick_f, b_lss, b_leq, b_gtr, b_geq, b_eql, b_neq, b_seql, b_sneq, b_add, b_sub, u_not, nilC_ptr, fAddr_ptr, Nat.zero_add, extr0, extr1, extr2, lenStr, decide_true, decide_false, bt_tt, bt_tf, bt_ft, bt_ff, bt_bne, Bool.not_true, Bool.not_false, Int.reduceBEq, Int.reduceBNe, extr30, extr31, e4, bs_size, e2, bs_upto (show l'.length ≤ (l' ++ [c]).length by simp)]
        rw [List.take_left]
        have e5 : trR (l' ++ [c]) = trR l' := by simp [trR, inp, hc]
        rw [e5]
        exact ih l' hl' (by omega)
      · have e4 : decide (c ∈ PB) = false := decide_eq_false hc
        simp only [real_b, real_i, real_c, chk_t, bnd_some, bnd_up, iff_t, iff_f, gd_t, gd_f, wd_b, wd_u, pick_t, pick_f, b_lss, b_leq, b_gtr, b_geq, b_eql, b_neq, b_seql, b_sneq, b_add, b_sub, u_not, nilC_ptr, fAddr_ptr, Nat.zero_add, extr0, extr1, extr2, lenStr, decide_true, decide_false, bt_tt, bt_tf, bt_ft, bt_ff, bt_bne, Bool.not_true, Bool.not_false, Int.reduceBEq, Int.reduceBNe, extr30, extr31, e4]
        have e5 : trR (l' ++ [c]) = l' ++ [c] := by simp [trR, inp, hc]
        rw [e5]
        exact Ev.pure _
theorem left_ok {R : Nat → Prop} {H : Heap} {b : Nat} (h : Box R H b (SET PB)) : ∀ (l : List UInt8), l.length < 9223372036854775807 →
    Ev (fun n m => f68_L0 real (AC n) n m (.string (bs l)) (ptr b 0) H) (.string (bs (l.dropWhile inp)), H)
  | [], _ => by
    refine Ev.step (fun n m => f68_L0.eq_2 _ _ _ _ _ _ _) ?_
    have e : (((([] : List UInt8).length : Nat) : Int) > 0) = False := by simp
    simp only [real_b, real_i, real_c, chk_t, bnd_some, bnd_up, iff_t, iff_f, gd_t, gd_f, wd_b, wd_u, pick_t, pick_f, b_lss, b_leq, b_gtr, b_geq, b_eql, b_neq, b_seql, b_sneq, b_add, b_sub, u_not, nilC_ptr, fAddr_ptr, Nat.zero_add, extr0, extr1, extr2, lenStr, decide_true, decide_false, bt_tt, bt_tf, bt_ft, bt_ff, bt_bne, Bool.not_true, Bool.not_false, Int.reduceBEq, Int.reduceBNe, extr30, extr31, bs_size, e]
    exact Ev.pure _
  | c :: l, hk => by
    have e : ((((c :: l).length : Nat) : Int) > 0) = True := by simp
    refine Ev.step (fun n m => f68_L0.eq_2 _ _ _ _ _ _ _) ?_
    have e3 : idxS (.string (bs (c :: l))) (.int .i64 0) = some (.int .u8 (c.toNat : Int)) := bs_idx (i := 0) rfl
    simp only [real_b, real_i, real_c, chk_t, bnd_some, bnd_up, iff_t, iff_f, gd_t, gd_f, wd_b, wd_u, pick_t, pick_f, b_lss, b_leq, b_gtr, b_geq, b_eql, b_neq, b_seql, b_sneq, b_add, b_sub, u_not, nilC_ptr, fAddr_ptr, Nat.zero_add, extr0, extr1, extr2, lenStr, decide_true, decide_false, bt_tt, bt_tf, bt_ft, bt_ff, bt_bne, Bool.not_true, Bool.not_false, Int.reduceBEq, Int.reduceBNe, extr30, extr31, bs_size, e, e3]
    refine Ev.callC (has_ok h) ?_
    by_cases hc : c ∈ PB
    · have e4 : decide (c ∈ PB) = true := decide_eq_true hc
      have e6 : slcStr (.string (bs (c :: l))) (some (.int .i64 1)) none = some (.string (bs ((c :: l).drop 1))) := bs_from (i := 1) (by simp)
      simp only [real_b, real_i, real_c, chk_t, bnd_some, bnd_up, iff_t, iff_f, gd_t, gd_f, wd_b, wd_u, pick_t, pick_f, b_lss, b_leq, b_gtr, b_geq, b_eql, b_neq, b_seql, b_sneq, b_add, b_sub, u_not, nilC_ptr, fAddr_ptr, Nat.zero_add, extr0, extr1, extr2, lenStr, decide_true, decide_false, bt_tt, bt_tf, bt_ft, bt_ff, bt_bne, Bool.not_true, Bool.not_false, Int.reduceBEq, Int.reduceBNe, extr30, extr31, e4, e6]
      have e5 : (c :: l).dropWhile inp = l.dropWhile inp := by simp [inp, hc]
      rw [e5]
      exact left_ok h l (by simp only [List.length_cons] at hk; omega)
    · have e4 : decide (c ∈ PB) = false := decide_eq_false hc
      simp only [real_b, real_i, real_c, chk_t, bnd_some, bnd_up, iff_t, iff_f, gd_t, gd_f, wd_b, wd_u, pick_t, pick_f, b_lss, b_leq, b_gtr, b_geq, b_eql, b_neq, b_seql, b_sneq, b_add, b_sub, u_not, nilC_ptr, fAddr_ptr, Nat.zero_add, extr0, extr1, extr2, lenStr, decide_true, decide_false, bt_tt, bt_tf, bt_ft, bt_ff, bt_bne, Bool.not_true, Bool.not_false, Int.reduceBEq, Int.reduceBNe, extr30, extr31, e4]
      have e5 : (c :: l).dropWhile inp = c :: l := by simp [inp, hc]
      rw [e5]
      exact Ev.pure _
theorem dropWhile_nil {p : UInt8 → Bool} : ∀ (l : List UInt8), l.dropWhile p = [] ↔ l.all p = true
  | [] => by simp
  | c :: l => by
    rw [List.dropWhile_cons]
    by_cases h : p c = true
    · rw [if_pos h, dropWhile_nil l]; simp [h]
    · rw [if_neg h]; simp [h]
theorem trim_nil (l : List UInt8) : (trR l).dropWhile inp = [] ↔ l.all inp = true := by
  constructor
  · intro h
    have h1 := (dropWhile_nil _).1 h
    have e : l = (trR l) ++ ((l.reverse.takeWhile inp).reverse) := by
      have := List.takeWhile_append_dropWhile (p := inp) (l := l.reverse)
      have := congrArg List.reverse this
      rw [List.reverse_append, List.reverse_reverse] at this
      exact this.symm
    rw [e, List.all_append, h1, List.all_reverse]
    simp
  · intro h
    have : trR l = [] := by
      unfold trR
      rw [(dropWhile_nil _).2 (by simpa using h)]
      rfl
    rw [this]; rfl
theorem e_empty {P : Program} {t : TypeId} {l : List UInt8} : binB P .eql t (.string (bs l)) (.string ⟨#[]⟩) = some (.bool (decide (l = []))) := bs_eql (b := [])
theorem e_empty' {l : List UInt8} : ((bs l).toList == ByteArray.toList ⟨#[]⟩) = decide (l = []) := by
  have : ByteArray.toList ⟨#[]⟩ = [] := bs_seq []
  rw [bs_seq, this]
  cases l <;> rfl
theorem new256 {H : Heap} : newV [(.bool false), (.bool false), (.bool false), (.bool false), (.bool false), (.bool false), (.bool false), (.bool false), (.bool false), (.bool false), (.bool false), (.bool false), (.bool false), (.bool false), (.bool false), (.bool false), (.bool false), (.bool false), (.bool false), (.bool false), (.bool false), (.bool false), (.bool false), (.bool false), (.bool false), (.bool false), (.bool false), (.bool false), (.bool false), (.bool false), (.bool false), (.bool false), (.bool false), (.bool false), (.bool false), (.bool false), (.bool false), (.bool false), (.bool false), (.bool false), (.bool false), (.bool false), (.bool false), (.bool false), (.bool false), (.bool false), (.bool false), (.bool false), (.bool false), (.bool false), (.bool false), (.bool false), (.bool false), (.bool false), (.bool false), (.bool false), (.bool false), (.bool false), (.bool false), (.bool false), (.bool false), (.bool false), (.bool false), (.bool false), (.bool false), (.bool false), (.bool false), (.bool false), (.bool false), (.bool false), (.bool false), (.bool false), (.bool false), (.bool false), (.bool false), (.bool false), (.bool false), (.bool false), (.bool false), (.bool false), (.bool false), (.bool false), (.bool false), (.bool false), (.bool false), (.bool false), (.bool false), (.bool false), (.bool false), (.bool false), (.bool false), (.bool false), (.bool false), (.bool false), (.bool false), (.bool false), (.bool false), (.bool false), (.bool false), (.bool false), (.bool false), (.bool false), (.bool false), (.bool false), (.bool false), (.bool false), (.bool false), (.bool false), (.bool false), (.bool false), (.bool false), (.bool false), (.bool false), (.bool false), (.bool false), (.bool false), (.bool false), (.bool false), (.bool false), (.bool false), (.bool false), (.bool false), (.bool false), (.bool false), (.bool false), (.bool false), (.bool false), (.bool false), (.bool false), (.bool false), (.bool false), (.bool false), (.bool false), (.bool false), (.bool false), (.bool false), (.bool false), (.bool false), (.bool false), (.bool false), (.bool false), (.bool false), (.bool false), (.bool false), (.bool false), (.bool false), (.bool false), (.bool false), (.bool false), (.bool false), (.bool false), (.bool false), (.bool false), (.bool false), (.bool false), (.bool false), (.bool false), (.bool false), (.bool false), (.bool false), (.bool false), (.bool false), (.bool false), (.bool false), (.bool false), (.bool false), (.bool false), (.bool false), (.bool false), (.bool false), (.bool false), (.bool false), (.bool false), (.bool false), (.bool false), (.bool false), (.bool false), (.bool false), (.bool false), (.bool false), (.bool false), (.bool false), (.bool false), (.bool false), (.bool false), (.bool false), (.bool false), (.bool false), (.bool false), (.bool false), (.bool false), (.bool false), (.bool false), (.bool false), (.bool false), (.bool false), (.bool false), (.bool false), (.bool false), (.bool false), (.bool false), (.bool false), (.bool false), (.bool false), (.bool false), (.bool false), (.bool false), (.bool false), (.bool false), (.bool false), (.bool false), (.bool false), (.bool false), (.bool false), (.bool false), (.bool false), (.bool false), (.bool false), (.bool false), (.bool false), (.bool false), (.bool false), (.bool false), (.bool false), (.bool false), (.bool false), (.bool false), (.bool false), (.bool false), (.bool false), (.bool false), (.bool false), (.bool false), (.bool false), (.bool false), (.bool false), (.bool false), (.bool false), (.bool false), (.bool false), (.bool false), (.bool false), (.bool false), (.bool false), (.bool false), (.bool false), (.bool false), (.bool false), (.bool false), (.bool false), (.bool false), (.bool false), (.bool false), (.bool false), (.bool false), (.bool false)] H = some (ptr H.n 0, H.push ⟨SET [], 1, true⟩) := by kernel_rfl
set_option maxRecDepth 100000 in
theorem trim_ok {H : Heap} {l : List UInt8} (hl : l ≠ []) (hb : l.length < 9223372036854775807) : ∃ H', Cl 50 [.string (bs l), .string (bs PB)] H (.string (bs ((trR l).dropWhile inp))) H' ∧ Keep (all H) H H' := by
  have k1 : Keep (all H) H (H.push ⟨SET PB, 1, true⟩) := push_keep
  have k2 : Keep (all (H.push ⟨SET PB, 1, true⟩)) (H.push ⟨SET PB, 1, true⟩) ((H.push ⟨SET PB, 1, true⟩).push ⟨SET PB, 1, true⟩) := push_keep
  refine ⟨_, ?_, k1.tr k2⟩
  have e0 : decide (l = []) = false := decide_eq_false hl
  have e1 : ((bs PB).toList == ByteArray.toList ⟨#[]⟩) = false := by rw [e_empty']; rfl
  have e2 : (((bs PB).size : Int) == 1) = false := by rw [bs_size]; rfl
  have hR : (trR l).length ≤ l.length := by
    unfold trR
    rw [List.length_reverse]
    refine Nat.le_trans (List.IsSuffix.length_le (List.dropWhile_suffix _)) ?_
    simp
  refine Ev.enter (fun n => f50_eq rfl n _ _ _) ?_
  simp only [f50, real_b, real_i, real_c, chk_t, bnd_some, bnd_up, iff_t, iff_f, gd_t, gd_f, wd_b, wd_u, pick_t, pick_f, b_lss, b_leq, b_gtr, b_geq, b_eql, b_neq, b_seql, b_sneq, b_add, b_sub, u_not, nilC_ptr, fAddr_ptr, Nat.zero_add, extr0, extr1, extr2, lenStr, decide_true, decide_false, bt_tt, bt_tf, bt_ft, bt_ff, bt_bne, Bool.not_true, Bool.not_false, Int.reduceBEq, Int.reduceBNe, extr30, extr31, e_empty', e0, e1, e2]
  refine Ev.callC (PB_set H) ?_
  simp only [real_b, real_i, real_c, chk_t, bnd_some, bnd_up, iff_t, iff_f, gd_t, gd_f, wd_b, wd_u, pick_t, pick_f, b_lss, b_leq, b_gtr, b_geq, b_eql, b_neq, b_seql, b_sneq, b_add, b_sub, u_not, nilC_ptr, fAddr_ptr, Nat.zero_add, extr0, extr1, extr2, lenStr, decide_true, decide_false, bt_tt, bt_tf, bt_ft, bt_ff, bt_bne, Bool.not_true, Bool.not_false, Int.reduceBEq, Int.reduceBNe, extr30, extr31, new256, stA_push SET_len SET_len SET_all]
  have hbx : Box (all ((H.push ⟨SET PB, 1, true⟩).push ⟨SET PB, 1, true⟩)) ((H.push ⟨SET PB, 1, true⟩).push ⟨SET PB, 1, true⟩) (H.push ⟨SET PB, 1, true⟩).n (SET PB) := push_boxA
  refine Ev.callC (Ev.enter (fun n => f69_eq rfl n _ _ _) (right_ok hbx _ l rfl hb).loop) ?_
  refine Ev.callC (Ev.enter (fun n => f68_eq rfl n _ _ _) (left_ok hbx (trR l) (by omega)).loop) ?_
  exact Ev.pure _

/-! ### the two tests -/
theorem isP_ok {H : Heap} {l : List UInt8} (hb : l.length < 9223372036854775807) : ∃ H', Cl 32 [.string (bs l)] H (.bool (isP l)) H' ∧ Keep (all H) H H' := by
  by_cases h1 : 1 ≤ l.length
  · have e1 : ((1 : Int) ≤ ((bs l).size : Int)) = True := by rw [bs_size]; simp; omega
    by_cases h2 : l.length ≤ 32
    · have e2 : (((bs l).size : Int) ≤ 32) = True := by rw [bs_size]; simp; omega
      have hne : l ≠ [] := by intro h; subst h; simp at h1
      obtain ⟨H', g1, g2⟩ := trim_ok (H := H) hne hb
      refine ⟨H', ?_, g2⟩
      have e3 : isP l = decide ((trR l).dropWhile inp = []) := by
        unfold isP
        rw [decide_eq_true h1, decide_eq_true h2, Bool.true_and, Bool.true_and]
        by_cases h : l.all inp = true
        · rw [h, decide_eq_true ((trim_nil l).2 h)]
        · rw [decide_eq_false (fun h' => h ((trim_nil l).1 h'))]; simpa using h
      rw [e3]
      refine Ev.enter (fun n => f32_eq rfl n _ _) ?_
      simp only [f32, real_b, real_i, real_c, chk_t, bnd_some, bnd_up, iff_t, iff_f, gd_t, gd_f, wd_b, wd_u, pick_t, pick_f, b_lss, b_leq, b_gtr, b_geq, b_eql, b_neq, b_seql, b_sneq, b_add, b_sub, u_not, nilC_ptr, fAddr_ptr, Nat.zero_add, extr0, extr1, extr2, lenStr, decide_true, decide_false, bt_tt, bt_tf, bt_ft, bt_ff, bt_bne, Bool.not_true, Bool.not_false, Int.reduceBEq, Int.reduceBNe, extr30, extr31, e1, e2]
      refine Ev.callC g1 ?_
      simp only [real_b, real_i, real_c, chk_t, bnd_some, bnd_up, iff_t, iff_f, gd_t, gd_f, wd_b, wd_u, pick_t, pick_f, b_lss, b_leq, b_gtr, b_geq, b_eql, b_neq, b_seql, b_sneq, b_add, b_sub, u_not, nilC_ptr, fAddr_ptr, Nat.zero_add, extr0, extr1, extr2, lenStr, decide_true, decide_false, bt_tt, bt_tf, bt_ft, bt_ff, bt_bne, Bool.not_true, Bool.not_false, Int.reduceBEq, Int.reduceBNe, extr30, extr31, e_empty']
      exact Ev.pure _
    · have e2 : (((bs l).size : Int) ≤ 32) = False := by rw [bs_size]; simp; omega
      have e3 : isP l = false := by simp [isP, h2]
      rw [e3]
      refine ⟨H, ?_, Keep.refl _ _⟩
      refine Ev.enter (fun n => f32_eq rfl n _ _) ?_
      simp only [f32, real_b, real_i, real_c, chk_t, bnd_some, bnd_up, iff_t, iff_f, gd_t, gd_f, wd_b, wd_u, pick_t, pick_f, b_lss, b_leq, b_gtr, b_geq, b_eql, b_neq, b_seql, b_sneq, b_add, b_sub, u_not, nilC_ptr, fAddr_ptr, Nat.zero_add, extr0, extr1, extr2, lenStr, decide_true, decide_false, bt_tt, bt_tf, bt_ft, bt_ff, bt_bne, Bool.not_true, Bool.not_false, Int.reduceBEq, Int.reduceBNe, extr30, extr31, e1, e2]
      exact Ev.pure _
  · have e1 : ((1 : Int) ≤ ((bs l).size : Int)) = False := by rw [bs_size]; simp; omega
    have e3 : isP l = false := by simp [isP, h1]
    rw [e3]
    refine ⟨H, ?_, Keep.refl _ _⟩
    refine Ev.enter (fun n => f32_eq rfl n _ _) ?_
    simp only [f32, real_b, real_i, real_c, chk_t, bnd_some, bnd_up, iff_t, iff_f, gd_t, gd_f, wd_b, wd_u, pick_t, pick_f, b_lss, b_leq, b_gtr, b_geq, b_eql, b_neq, b_seql, b_sneq, b_add, b_sub, u_not, nilC_ptr, fAddr_ptr, Nat.zero_add, extr0, extr1, extr2, lenStr, decide_true, decide_false, bt_tt, bt_tf, bt_ft, bt_ff, bt_bne, Bool.not_true, Bool.not_false, Int.reduceBEq, Int.reduceBNe, extr30, extr31, e1]
    exact Ev.pure _
def okc (c : Nat) : Bool := decide (97 ≤ c ∧ c ≤ 122 ∨ 48 ≤ c ∧ c ≤ 57 ∨ c = 46 ∨ c = 95 ∨ c = 45 ∨ c = 47)
set_option maxRecDepth 100000 in
theorem okc_inp' : ∀ c : Fin 256, okc c.val = decide (UInt8.ofNat c.val ∈ PB) := by decide
theorem okc_inp (c : UInt8) : okc c.toNat = inp c := by
  have := okc_inp' ⟨c.toNat, c.toNat_lt⟩
  simpa [inp] using this
theorem char_step {H : Heap} {l : List UInt8} {i : Nat} {c : UInt8} (hi : i < l.length) (hc : l[i]? = some c) (hb : l.length < 9223372036854775807) {n m : Nat} :
    f33_L0 real (AC n) n (m + 1) (.string (bs l)) (.int .i64 (i : Int)) H = if inp c then f33_L0 real (AC n) n m (.string (bs l)) (.int .i64 ((i + 1 : Nat) : Int)) H else some (.bool false, H) := by
  rw [← okc_inp]
  have e0 : (((i : Nat) : Int) < ((bs l).size : Int)) = True := by rw [bs_size]; simp; omega
  have ei := bs_idx (k := .i64) hc
  have eu := idx_up (show i < 9223372036854775807 by omega)
  generalize hx : c.toNat = x at *
  rw [f33_L0.eq_2]
  by_cases h1 : 97 ≤ x ∧ x ≤ 122
  · have h11 := h1.1; have h12 := h1.2
    have g97 : ((x : Int) ≥ 97) = True := by simp; omega
    have l122 : ((x : Int) ≤ 122) = True := by simp; omega
    have ok : okc x = true := by simp only [okc, decide_eq_true_eq]; omega
    simp only [real_b, real_i, real_c, chk_t, bnd_some, bnd_up, iff_t, iff_f, gd_t, gd_f, wd_b, wd_u, pick_t, pick_f, b_lss, b_leq, b_gtr, b_geq, b_eql, b_neq, b_seql, b_sneq, b_add, b_sub, u_not, nilC_ptr, fAddr_ptr, Nat.zero_add, extr0, extr1, extr2, lenStr, decide_true, decide_false, bt_tt, bt_tf, bt_ft, bt_ff, bt_bne, Bool.not_true, Bool.not_false, Int.reduceBEq, Int.reduceBNe, extr30, extr31, e0, ei, hx, ok, eu, if_true, Bool.false_eq_true, if_false, g97, l122]
  by_cases h2 : 122 < x
  · skip
    have g97 : ((x : Int) ≥ 97) = True := by simp; omega
    have l122 : ((x : Int) ≤ 122) = False := by simp; omega
    have g48 : ((x : Int) ≥ 48) = True := by simp; omega
    have l57 : ((x : Int) ≤ 57) = False := by simp; omega
    have q46 : ((x : Int) == 46) = false := by simp; omega
    have q95 : ((x : Int) == 95) = false := by simp; omega
    have q45 : ((x : Int) == 45) = false := by simp; omega
    have q47 : ((x : Int) == 47) = false := by simp; omega
    have ok : okc x = false := by simp only [okc, decide_eq_false_iff_not]; omega
    simp only [real_b, real_i, real_c, chk_t, bnd_some, bnd_up, iff_t, iff_f, gd_t, gd_f, wd_b, wd_u, pick_t, pick_f, b_lss, b_leq, b_gtr, b_geq, b_eql, b_neq, b_seql, b_sneq, b_add, b_sub, u_not, nilC_ptr, fAddr_ptr, Nat.zero_add, extr0, extr1, extr2, lenStr, decide_true, decide_false, bt_tt, bt_tf, bt_ft, bt_ff, bt_bne, Bool.not_true, Bool.not_false, Int.reduceBEq, Int.reduceBNe, extr30, extr31, e0, ei, hx, ok, eu, if_true, Bool.false_eq_true, if_false, g97, l122, g48, l57, q46, q95, q45, q47]
  have h97 : x < 97 := by omega
  by_cases h3 : 48 ≤ x ∧ x ≤ 57
  · have h31 := h3.1; have h32 := h3.2
    have g97 : ((x : Int) ≥ 97) = False := by simp; omega
    have g48 : ((x : Int) ≥ 48) = True := by simp; omega
    have l57 : ((x : Int) ≤ 57) = True := by simp; omega
    have ok : okc x = true := by simp only [okc, decide_eq_true_eq]; omega
    simp only [real_b, real_i, real_c, chk_t, bnd_some, bnd_up, iff_t, iff_f, gd_t, gd_f, wd_b, wd_u, pick_t, pick_f, b_lss, b_leq, b_gtr, b_geq, b_eql, b_neq, b_seql, b_sneq, b_add, b_sub, u_not, nilC_ptr, fAddr_ptr, Nat.zero_add, extr0, extr1, extr2, lenStr, decide_true, decide_false, bt_tt, bt_tf, bt_ft, bt_ff, bt_bne, Bool.not_true, Bool.not_false, Int.reduceBEq, Int.reduceBNe, extr30, extr31, e0, ei, hx, ok, eu, if_true, Bool.false_eq_true, if_false, g97, g48, l57]
  by_cases h95 : x = 95
  · skip
    have g97 : ((x : Int) ≥ 97) = False := by simp; omega
    have g48 : ((x : Int) ≥ 48) = True := by simp; omega
    have l57 : ((x : Int) ≤ 57) = False := by simp; omega
    have q46 : ((x : Int) == 46) = false := by simp; omega
    have q95 : ((x : Int) == 95) = true := by simp; omega
    have ok : okc x = true := by simp only [okc, decide_eq_true_eq]; omega
    simp only [real_b, real_i, real_c, chk_t, bnd_some, bnd_up, iff_t, iff_f, gd_t, gd_f, wd_b, wd_u, pick_t, pick_f, b_lss, b_leq, b_gtr, b_geq, b_eql, b_neq, b_seql, b_sneq, b_add, b_sub, u_not, nilC_ptr, fAddr_ptr, Nat.zero_add, extr0, extr1, extr2, lenStr, decide_true, decide_false, bt_tt, bt_tf, bt_ft, bt_ff, bt_bne, Bool.not_true, Bool.not_false, Int.reduceBEq, Int.reduceBNe, extr30, extr31, e0, ei, hx, ok, eu, if_true, Bool.false_eq_true, if_false, g97, g48, l57, q46, q95]
  by_cases h4 : 57 < x
  · skip
    have g97 : ((x : Int) ≥ 97) = False := by simp; omega
    have g48 : ((x : Int) ≥ 48) = True := by simp; omega
    have l57 : ((x : Int) ≤ 57) = False := by simp; omega
    have q46 : ((x : Int) == 46) = false := by simp; omega
    have q95 : ((x : Int) == 95) = false := by simp; omega
    have q45 : ((x : Int) == 45) = false := by simp; omega
    have q47 : ((x : Int) == 47) = false := by simp; omega
    have ok : okc x = false := by simp only [okc, decide_eq_false_iff_not]; omega
    simp only [real_b, real_i, real_c, chk_t, bnd_some, bnd_up, iff_t, iff_f, gd_t, gd_f, wd_b, wd_u, pick_t, pick_f, b_lss, b_leq, b_gtr, b_geq, b_eql, b_neq, b_seql, b_sneq, b_add, b_sub, u_not, nilC_ptr, fAddr_ptr, Nat.zero_add, extr0, extr1, extr2, lenStr, decide_true, decide_false, bt_tt, bt_tf, bt_ft, bt_ff, bt_bne, Bool.not_true, Bool.not_false, Int.reduceBEq, Int.reduceBNe, extr30, extr31, e0, ei, hx, ok, eu, if_true, Bool.false_eq_true, if_false, g97, g48, l57, q46, q95, q45, q47]
  have h48 : x < 48 := by omega
  by_cases h46 : x = 46
  · skip
    have g97 : ((x : Int) ≥ 97) = False := by simp; omega
    have g48 : ((x : Int) ≥ 48) = False := by simp; omega
    have q46 : ((x : Int) == 46) = true := by simp; omega
    have ok : okc x = true := by simp only [okc, decide_eq_true_eq]; omega
    simp only [real_b, real_i, real_c, chk_t, bnd_some, bnd_up, iff_t, iff_f, gd_t, gd_f, wd_b, wd_u, pick_t, pick_f, b_lss, b_leq, b_gtr, b_geq, b_eql, b_neq, b_seql, b_sneq, b_add, b_sub, u_not, nilC_ptr, fAddr_ptr, Nat.zero_add, extr0, extr1, extr2, lenStr, decide_true, decide_false, bt_tt, bt_tf, bt_ft, bt_ff, bt_bne, Bool.not_true, Bool.not_false, Int.reduceBEq, Int.reduceBNe, extr30, extr31, e0, ei, hx, ok, eu, if_true, Bool.false_eq_true, if_false, g97, g48, q46]
  by_cases h45 : x = 45
  · skip
    have g97 : ((x : Int) ≥ 97) = False := by simp; omega
    have g48 : ((x : Int) ≥ 48) = False := by simp; omega
    have q46 : ((x : Int) == 46) = false := by simp; omega
    have q95 : ((x : Int) == 95) = false := by simp; omega
    have q45 : ((x : Int) == 45) = true := by simp; omega
    have ok : okc x = true := by simp only [okc, decide_eq_true_eq]; omega
    simp only [real_b, real_i, real_c, chk_t, bnd_some, bnd_up, iff_t, iff_f, gd_t, gd_f, wd_b, wd_u, pick_t, pick_f, b_lss, b_leq, b_gtr, b_geq, b_eql, b_neq, b_seql, b_sneq, b_add, b_sub, u_not, nilC_ptr, fAddr_ptr, Nat.zero_add, extr0, extr1, extr2, lenStr, decide_true, decide_false, bt_tt, bt_tf, bt_ft, bt_ff, bt_bne, Bool.not_true, Bool.not_false, Int.reduceBEq, Int.reduceBNe, extr30, extr31, e0, ei, hx, ok, eu, if_true, Bool.false_eq_true, if_false, g97, g48, q46, q95, q45]
  by_cases h47 : x = 47
  · skip
    have g97 : ((x : Int) ≥ 97) = False := by simp; omega
    have g48 : ((x : Int) ≥ 48) = False := by simp; omega
    have q46 : ((x : Int) == 46) = false := by simp; omega
    have q95 : ((x : Int) == 95) = false := by simp; omega
    have q45 : ((x : Int) == 45) = false := by simp; omega
    have q47 : ((x : Int) == 47) = true := by simp; omega
    have ok : okc x = true := by simp only [okc, decide_eq_true_eq]; omega
    simp only [real_b, real_i, real_c, chk_t, bnd_some, bnd_up, iff_t, iff_f, gd_t, gd_f, wd_b, wd_u, pick_t, pick_f, b_lss, b_leq, b_gtr, b_geq, b_eql, b_neq, b_seql, b_sneq, b_add, b_sub, u_not, nilC_ptr, fAddr_ptr, Nat.zero_add, extr0, extr1, extr2, lenStr, decide_true, decide_false, bt_tt, bt_tf, bt_ft, bt_ff, bt_bne, Bool.not_true, Bool.not_false, Int.reduceBEq, Int.reduceBNe, extr30, extr31, e0, ei, hx, ok, eu, if_true, Bool.false_eq_true, if_false, g97, g48, q46, q95, q45, q47]
  have g97 : ((x : Int) ≥ 97) = False := by simp; omega
  have g48 : ((x : Int) ≥ 48) = False := by simp; omega
  have q46 : ((x : Int) == 46) = false := by simp; omega
  have q95 : ((x : Int) == 95) = false := by simp; omega
  have q45 : ((x : Int) == 45) = false := by simp; omega
  have q47 : ((x : Int) == 47) = false := by simp; omega
  have ok : okc x = false := by simp only [okc, decide_eq_false_iff_not]; omega
  simp only [real_b, real_i, real_c, chk_t, bnd_some, bnd_up, iff_t, iff_f, gd_t, gd_f, wd_b, wd_u, pick_t, pick_f, b_lss, b_leq, b_gtr, b_geq, b_eql, b_neq, b_seql, b_sneq, b_add, b_sub, u_not, nilC_ptr, fAddr_ptr, Nat.zero_add, extr0, extr1, extr2, lenStr, decide_true, decide_false, bt_tt, bt_tf, bt_ft, bt_ff, bt_bne, Bool.not_true, Bool.not_false, Int.reduceBEq, Int.reduceBNe, extr30, extr31, e0, ei, hx, ok, eu, if_true, Bool.false_eq_true, if_false, g97, g48, q46, q95, q45, q47]
theorem rpath_loop {H : Heap} {l : List UInt8} (hb : l.length < 9223372036854775807) : ∀ (k i : Nat), i + k = l.length →
    Ev (fun n m => f33_L0 real (AC n) n m (.string (bs l)) (.int .i64 (i : Int)) H) (.bool (decide (1 ≤ l.length) && decide (l.length ≤ 32) && (l.drop i).all inp), H) := by
  intro k
  induction k with
  | zero =>
    intro i hi
    rw [List.drop_eq_nil_of_le (by omega)]
    have e0 : (((i : Nat) : Int) < ((bs l).size : Int)) = False := by rw [bs_size]; simp; omega
    refine Ev.step (fun n m => f33_L0.eq_2 _ _ _ _ _ _ _) ?_
    by_cases h1 : 1 ≤ l.length
    · have e1 : (((bs l).size : Int) ≥ (1 : Int)) = True := by rw [bs_size]; simp; omega
      have d1 : decide (1 ≤ l.length) = true := decide_eq_true h1
      by_cases h2 : l.length ≤ 32
      · have e2 : (((bs l).size : Int) ≤ 32) = True := by rw [bs_size]; simp; omega
        have d2 : decide (l.length ≤ 32) = true := decide_eq_true h2
        rw [d1, d2]
        simp only [real_b, real_i, real_c, chk_t, bnd_some, bnd_up, iff_t, iff_f, gd_t, gd_f, wd_b, wd_u, pick_t, pick_f, b_lss, b_leq, b_gtr, b_geq, b_eql, b_neq, b_seql, b_sneq, b_add, b_sub, u_not, nilC_ptr, fAddr_ptr, Nat.zero_add, extr0, extr1, extr2, lenStr, decide_true, decide_false, bt_tt, bt_tf, bt_ft, bt_ff, bt_bne, Bool.not_true, Bool.not_false, Int.reduceBEq, Int.reduceBNe, extr30, extr31, e0, e1, e2, List.all_nil, Bool.and_self]
        exact Ev.pure _
      · have e2 : (((bs l).size : Int) ≤ 32) = False := by rw [bs_size]; simp; omega
        have d2 : decide (l.length ≤ 32) = false := decide_eq_false h2
        rw [d1, d2]
        simp only [real_b, real_i, real_c, chk_t, bnd_some, bnd_up, iff_t, iff_f, gd_t, gd_f, wd_b, wd_u, pick_t, pick_f, b_lss, b_leq, b_gtr, b_geq, b_eql, b_neq, b_seql, b_sneq, b_add, b_sub, u_not, nilC_ptr, fAddr_ptr, Nat.zero_add, extr0, extr1, extr2, lenStr, decide_true, decide_false, bt_tt, bt_tf, bt_ft, bt_ff, bt_bne, Bool.not_true, Bool.not_false, Int.reduceBEq, Int.reduceBNe, extr30, extr31, e0, e1, e2, List.all_nil, Bool.and_true, Bool.and_false]
        exact Ev.pure _
    · have e1 : (((bs l).size : Int) ≥ (1 : Int)) = False := by rw [bs_size]; simp; omega
      have d1 : decide (1 ≤ l.length) = false := decide_eq_false h1
      rw [d1]
      simp only [real_b, real_i, real_c, chk_t, bnd_some, bnd_up, iff_t, iff_f, gd_t, gd_f, wd_b, wd_u, pick_t, pick_f, b_lss, b_leq, b_gtr, b_geq, b_eql, b_neq, b_seql, b_sneq, b_add, b_sub, u_not, nilC_ptr, fAddr_ptr, Nat.zero_add, extr0, extr1, extr2, lenStr, decide_true, decide_false, bt_tt, bt_tf, bt_ft, bt_ff, bt_bne, Bool.not_true, Bool.not_false, Int.reduceBEq, Int.reduceBNe, extr30, extr31, e0, e1, List.all_nil, Bool.and_true, Bool.false_and]
      exact Ev.pure _
  | succ k ih =>
    intro i hi
    obtain ⟨c, hc, hd⟩ := drop_at (l := l) (i := i) (by omega)
    refine Ev.step (fun n m => char_step (by omega) hc hb) ?_
    rw [hd, List.all_cons]
    by_cases h : inp c = true
    · simp only [h, if_true, Bool.true_and]
      exact ih (i + 1) (by omega)
    · have h' : inp c = false := by simpa using h
      simp only [h', Bool.false_and, Bool.and_false]
      exact Ev.pure _
theorem rpath_ok {H : Heap} {l : List UInt8} (hb : l.length < 9223372036854775807) : Cl 33 [.string (bs l)] H (.bool (isP l)) H := by
  refine Ev.enter (fun n => f33_eq rfl n _ _) ?_
  exact (rpath_loop hb l.length 0 (by omega)).loop
end Go.Eng
