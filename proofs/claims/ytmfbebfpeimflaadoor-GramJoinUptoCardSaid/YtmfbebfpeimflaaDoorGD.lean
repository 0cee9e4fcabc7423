/- Slices of bytes: parts, copies, what is trimmed off, what is cut. -/
import Derived.Test.YtmfbebfpeimflaaDoorGC
set_option linter.unusedVariables false
set_option linter.unusedSimpArgs false
namespace Go.Eng
open Go Go.Proofs

/-- Bytes that may be read. -/
abbrev SlU (R : Nat → Prop) (H : Heap) (l : List UInt8) (v : Value) : Prop := Sl R H 1 v l.length (B (U l))
section
variable {R : Nat → Prop} {H : Heap} {l : List UInt8} {v : Value}
theorem SlU.drop (h : SlU R H l v) {k : IntKind} {i : Nat} (hi : i ≤ l.length) : ∃ v', slcS 1 v (some (.int k (i : Int))) none none = some v' ∧ SlU R H (l.drop i) v' := by
  obtain ⟨v', h1, h2⟩ := Sl.drop h (k := k) hi
  refine ⟨v', h1, ?_⟩
  rw [B_drop, U_drop] at h2
  show Sl R H 1 v' (l.drop i).length _
  rw [List.length_drop]; exact h2
theorem SlU.take (h : SlU R H l v) {i : Nat} (hi : i ≤ l.length) : ∃ v', slcS 1 v none (some (.int .i64 (i : Int))) none = some v' ∧ SlU R H (l.take i) v' := by
  obtain ⟨v', h1, h2⟩ := Sl.take h hi
  refine ⟨v', h1, ?_⟩
  rw [B_take, U_take] at h2
  show Sl R H 1 v' (l.take i).length _
  rw [List.length_take, Nat.min_eq_left hi]; exact h2
theorem SlU.part (h : SlU R H l v) {k k' : IntKind} {i j : Nat} (hi : i ≤ j) (hj : j ≤ l.length) : ∃ v', slcS 1 v (some (.int k (i : Int))) (some (.int k' (j : Int))) none = some v' ∧ SlU R H ((l.take j).drop i) v' := by
  obtain ⟨v', h1, h2⟩ := Sl.part h (k := k) (k' := k') hi hj
  refine ⟨v', h1, ?_⟩
  rw [B_drop, B_take, U_drop, U_take, ← List.drop_take] at h2
  have e : ((l.take j).drop i).length = j - i := by simp; omega
  show Sl R H 1 v' ((l.take j).drop i).length _
  rw [e]; exact h2
theorem SlU.at (h : SlU R H l v) {i : Nat} {c : UInt8} (hc : l[i]? = some c) : ∃ p, iAddrS 1 v (.int .i64 (i : Int)) = some p ∧ ldC p H = some (.int .u8 (c.toNat : Int), H) := h.at1 (U_at hc)
theorem SlU.len (h : SlU R H l v) : lenS v = some (.int .i64 (l.length : Int)) := Sl.lenS h
end
theorem Acc.slU {H0 H : Heap} {l : List UInt8} {v : Value} (h : Acc (all H0) H 1 v l.length (B (U l))) : SlU (all H) H l v := h.sl
theorem SlU.up {H H' : Heap} {l : List UInt8} {v : Value} (h : SlU (all H) H l v) (k : Keep (all H) H H') : SlU (all H') H' l v := Sl.up h k

/-! ### copies; two held against each other -/
theorem copy_ok {H : Heap} {v : Value} {l : List UInt8} (h : SlU (all H) H l v) (hb : l.length ≤ mostBytes) : ∃ w H', Cl 7 [v] H w H' ∧ Acc (all H) H' 1 w l.length (B (U l)) ∧ Keep (all H) H H' := by
  obtain ⟨w, H', g1, g2, g3⟩ := (Acc.nil (R := all H) (H := H) (sz := 1)).app (by_ := 1) (Rb.all H) h.addend (Sl.len h) (by omega)
  refine ⟨w, H', ?_, by simpa using g2, g3⟩
  refine Ev.enter (fun n => f7_eq rfl n _ _) ?_
  simp only [f7, ruA, ruB, ruC, ruE, ruD, lenStr, Int.reduceBEq, Int.reduceBNe, g1]
  exact Ev.pure _
theorem bne_u8 (c d : UInt8) : ((c.toNat : Int) != (d.toNat : Int)) = !decide (c = d) := by
  rw [← u8_two]; rfl
theorem eq_loop {R : Nat → Prop} {H : Heap} {v1 v2 : Value} {a b : List UInt8} (h1 : SlU R H a v1) (h2 : SlU R H b v2) (hl : a.length = b.length) (hb : a.length < 9223372036854775807) :
    ∀ (k i : Nat), i + k = a.length → Ev (fun n m => f11_L0 real (AC n) n m v1 v2 (.int .i64 (i : Int)) H) (.bool (decide (a.drop i = b.drop i)), H) := by
  intro k
  induction k with
  | zero =>
    intro i hi
    refine Ev.step (fun n m => f11_L0.eq_2 _ _ _ _ _ _ _ _) ?_
    have e : decide (a.drop i = b.drop i) = true := by
      rw [List.drop_eq_nil_of_le (by omega), List.drop_eq_nil_of_le (by omega)]; simp
    simp only [ruA, ruB, ruC, ruE, ruD, lenStr, Int.reduceBEq, Int.reduceBNe, h1.len, idx_ge (show a.length ≤ i by omega), e]
    exact Ev.pure _
  | succ k ih =>
    intro i hi
    obtain ⟨x, x1, x2⟩ := drop_at (l := a) (i := i) (by omega)
    obtain ⟨y, y1, y2⟩ := drop_at (l := b) (i := i) (by omega)
    obtain ⟨p, p1, p2⟩ := h1.at x1
    obtain ⟨q, q1, q2⟩ := h2.at y1
    refine Ev.step (fun n m => f11_L0.eq_2 _ _ _ _ _ _ _ _) ?_
    rw [x2, y2]
    by_cases hxy : x = y
    · subst hxy
      simp only [ruA, ruB, ruC, ruE, ruD, lenStr, Int.reduceBEq, Int.reduceBNe, h1.len, idx_lt (show i < a.length by omega), p1, p2, q1, q2, idx_up (show i < 9223372036854775807 by omega)]
      have := ih (i + 1) (by omega)
      simpa using this
    · have e : decide (x :: a.drop (i + 1) = y :: b.drop (i + 1)) = false := by simp [hxy]
      simp only [ruA, ruB, ruC, ruE, ruD, lenStr, Int.reduceBEq, Int.reduceBNe, h1.len, idx_lt (show i < a.length by omega), p1, p2, q1, q2, bne_u8, decide_eq_false hxy, e]
      exact Ev.pure _
theorem eq_ok {R : Nat → Prop} {H : Heap} {v1 v2 : Value} {a b : List UInt8} (h1 : SlU R H a v1) (h2 : SlU R H b v2) (hb : a.length < 9223372036854775807) : Cl 11 [v1, v2] H (.bool (decide (a = b))) H := by
  refine Ev.enter (fun n => f11_eq rfl n _ _ _) ?_
  by_cases hl : a.length = b.length
  · have hn : ((a.length : Int) != (b.length : Int)) = false := by simp; omega
    simp only [f11, ruA, ruB, ruC, ruE, ruD, lenStr, Int.reduceBEq, Int.reduceBNe, h1.len, h2.len, hn]
    have := (eq_loop h1 h2 hl hb a.length 0 (by omega)).loop
    simpa using this
  · have hn : ((a.length : Int) != (b.length : Int)) = true := by simp; omega
    simp only [f11, ruA, ruB, ruC, ruE, ruD, lenStr, Int.reduceBEq, Int.reduceBNe, h1.len, h2.len, hn]
    have : decide (a = b) = false := by
      simp; intro h; exact hl (by rw [h])
    rw [this]
    exact Ev.pure _

/-! ### trimmed off -/
/-- A set of bytes, as cells. -/
def SET (l : List UInt8) : List Value := (List.range 256).map fun c => .bool (decide (UInt8.ofNat c ∈ l))
theorem SET_at {l : List UInt8} {c : UInt8} : (SET l)[c.toNat]? = some (.bool (decide (c ∈ l))) := by
  have := c.toNat_lt
  simp [SET, List.getElem?_range this]
theorem SET_set {l : List UInt8} {c : UInt8} : (SET l).set c.toNat (.bool true) = SET (l ++ [c]) := by
  have hc := c.toNat_lt
  apply List.ext_getElem (by simp [SET])
  intro i h1 h2
  have hi : i < 256 := by simpa [SET] using h2
  rw [List.getElem_set]
  split
  · rename_i h
    subst h
    simp [SET]
  · rename_i h
    have : ¬ UInt8.ofNat i = c := fun h' => h (by rw [← h']; show i % 256 = i; omega)
    simp [SET, this]
theorem SET_len {l : List UInt8} : (SET l).length = 256 := by simp [SET]
theorem SET_all {l : List UInt8} : (SET l).all oneC = true := by
  rw [List.all_eq_true]
  intro v hv
  simp only [SET, List.mem_map] at hv
  obtain ⟨c, _, rfl⟩ := hv
  rfl
theorem iA_set {b : Nat} {c : UInt8} : iAddrA 256 1 (ptr b 0) (.int .u8 (c.toNat : Int)) = some (ptr b c.toNat) := by
  have := c.toNat_lt
  simp only [iAddrA]
  rw [if_pos (by omega)]
  simp
theorem new256 {H : Heap} : newV (rep 256 [.bool false]) H = some (ptr H.n 0, H.push ⟨SET [], 1, true⟩) := by kernel_rfl
theorem set_loop {H : Heap} {l : List UInt8} (hl : ∀ c ∈ l, c.toNat < 128) (hb : l.length < 9223372036854775807) : ∀ (k i : Nat), i + k = l.length →
    Ev (fun n m => f44_L0 real (AC n) n m (.string (bs l)) (ptr H.n 0) (.int .i64 (i : Int)) (H.push ⟨SET (l.take i), 1, true⟩)) (.tuple #[.agg (SET l).toArray, .bool true], H.push ⟨SET l, 1, true⟩) := by
  intro k
  induction k with
  | zero =>
    intro i hi
    refine Ev.step (fun n m => f44_L0.eq_2 _ _ _ _ _ _ _ _) ?_
    rw [List.take_of_length_le (by omega)]
    simp only [ruA, ruB, ruC, ruE, ruD, lenStr, Int.reduceBEq, Int.reduceBNe, bs_size, idx_ge (show l.length ≤ i by omega), ldA_push (show 256 = (SET l).length from SET_len.symm), stA_push SET_len SET_len SET_all, Option.map_some, resM2, one2]
    exact Ev.pure _
  | succ k ih =>
    intro i hi
    obtain ⟨c, hc, hd⟩ := drop_at (l := l) (i := i) (by omega)
    have h128 := hl c (mem_at hc)
    have e : ((c.toNat : Int) ≥ 128) = False := by simp; omega
    refine Ev.step (fun n m => f44_L0.eq_2 _ _ _ _ _ _ _ _) ?_
    simp only [ruA, ruB, ruC, ruE, ruD, lenStr, Int.reduceBEq, Int.reduceBNe, bs_size, idx_lt (show i < l.length by omega), bs_idx hc, e, iA_set, st1_push (show c.toNat < (SET (l.take i)).length by rw [SET_len]; omega) (w := .bool true) rfl rfl, idx_up (show i < 9223372036854775807 by omega)]
    have := ih (i + 1) (by omega)
    rw [SET_set]
    have e2 : l.take (i + 1) = l.take i ++ [c] := by
      rw [List.take_add_one, hc]; rfl
    rw [e2] at this
    exact this
abbrev BLANKS : List UInt8 := [32, 9, 10, 13]
theorem blank_in (c : UInt8) : decide (c ∈ BLANKS) = wBlank c := by simp [wBlank]
theorem set_ok (H : Heap) : Cl 44 [.string (bs BLANKS)] H (.tuple #[.agg (SET BLANKS).toArray, .bool true]) (H.push ⟨SET BLANKS, 1, true⟩) := by
  refine Ev.enter (fun n => f44_eq rfl n _ _) ?_
  simp only [f44, ruA, ruB, ruC, ruE, ruD, lenStr, Int.reduceBEq, Int.reduceBNe, new256]
  exact (set_loop (by decide) (by decide) BLANKS.length 0 (by omega)).loop
theorem has_ok {R : Nat → Prop} {H : Heap} {b : Nat} {l : List UInt8} {c : UInt8} (h : Box R H b (SET l)) : Cl 64 [ptr b 0, .int .u8 (c.toNat : Int)] H (.bool (decide (c ∈ l))) H := by
  refine Ev.enter (fun n => f64_eq rfl n _ _ _) ?_
  simp only [f64, ruA, ruB, ruC, ruE, ruD, lenStr, Int.reduceBEq, Int.reduceBNe, iA_set, h.ld SET_at]
  exact Ev.pure _
theorem tl_J1 {R : Nat → Prop} {H : Heap} {v : Value} {l : List UInt8} (hs : SlU R H l v) : ∃ v', (∀ n, f45_J1 real (AC n) n v H = some (v', H)) ∧ SlU R H l v' := by
  cases l with
  | nil =>
    refine ⟨nilS, fun n => ?_, .inl ⟨rfl, rfl, rfl⟩⟩
    simp only [f45_J1, ruA, ruB, ruC, ruE, ruD, lenStr, Int.reduceBEq, Int.reduceBNe, hs.len, show ((([] : List UInt8).length : Nat) : Int) = 0 from rfl]
  | cons c l =>
    refine ⟨v, fun n => ?_, hs⟩
    have e : ((((c :: l).length : Nat) : Int) == 0) = false := by simp; omega
    simp only [f45_J1, ruA, ruB, ruC, ruE, ruD, lenStr, Int.reduceBEq, Int.reduceBNe, hs.len, e]
theorem tl_loop {R R' : Nat → Prop} {H : Heap} {b : Nat} (h : Box R' H b (SET BLANKS)) : ∀ (l : List UInt8) (v : Value), SlU R H l v → l.length < 9223372036854775807 →
    ∃ v', Ev (fun n m => f45_L0 real (AC n) n m v (ptr b 0) H) (v', H) ∧ SlU R H (l.dropWhile wBlank) v'
  | [], v, hs, _ => by
    obtain ⟨v', g1, g2⟩ := tl_J1 hs
    refine ⟨v', ?_, g2⟩
    refine Ev.step (fun n m => f45_L0.eq_2 _ _ _ _ _ _ _) ?_
    have e : (((([] : List UInt8).length : Nat) : Int) > 0) = False := by simp
    simp only [ruA, ruB, ruC, ruE, ruD, lenStr, Int.reduceBEq, Int.reduceBNe, hs.len, e, g1]
    exact Ev.pure _
  | c :: l, v, hs, hk => by
    have e : ((((c :: l).length : Nat) : Int) > 0) = True := by simp
    obtain ⟨p, p1, p2⟩ := hs.at (i := 0) (c := c) rfl
    simp only [Int.natCast_zero] at p1
    cases hb : wBlank c with
    | true =>
      obtain ⟨u, u1, u2⟩ := hs.drop (k := .i64) (i := 1) (by simp)
      obtain ⟨v', g1, g2⟩ := tl_loop h l u u2 (by simp only [List.length_cons] at hk; omega)
      refine ⟨v', ?_, by simpa [hb] using g2⟩
      refine Ev.step (fun n m => f45_L0.eq_2 _ _ _ _ _ _ _) ?_
      simp only [ruA, ruB, ruC, ruE, ruD, lenStr, Int.reduceBEq, Int.reduceBNe, hs.len, e, p1, p2]
      refine Ev.callC (has_ok h) ?_
      have u1' : slcS 1 v (some (.int .i64 1)) none none = some u := u1
      simp only [ruA, ruB, ruC, ruE, ruD, lenStr, Int.reduceBEq, Int.reduceBNe, blank_in, hb, u1']
      exact g1
    | false =>
      obtain ⟨v', g1, g2⟩ := tl_J1 hs
      refine ⟨v', ?_, by simpa [hb] using g2⟩
      refine Ev.step (fun n m => f45_L0.eq_2 _ _ _ _ _ _ _) ?_
      simp only [ruA, ruB, ruC, ruE, ruD, lenStr, Int.reduceBEq, Int.reduceBNe, hs.len, e, p1, p2]
      refine Ev.callC (has_ok h) ?_
      simp only [ruA, ruB, ruC, ruE, ruD, lenStr, Int.reduceBEq, Int.reduceBNe, blank_in, hb, g1]
      exact Ev.pure _
theorem e_empty' {l : List UInt8} : ((bs l).toList == ByteArray.toList ⟨#[]⟩) = decide (l = []) := by
  have : ByteArray.toList ⟨#[]⟩ = [] := bs_seq []
  rw [bs_seq, this]
  cases l <;> rfl
theorem trim_ok {R : Nat → Prop} {H : Heap} {l : List UInt8} {v : Value} (hR : Rb R H) (hs : SlU R H l v) (hb : l.length < 9223372036854775807) : ∃ v' H', Cl 32 [v, .string (bs BLANKS)] H v' H' ∧ SlU R H' (l.dropWhile wBlank) v' ∧ Keep (all H) H H' := by
  cases l with
  | nil =>
    refine ⟨nilS, H, ?_, .inl ⟨rfl, rfl, rfl⟩, Keep.refl _ _⟩
    refine Ev.enter (fun n => f32_eq rfl n _ _ _) ?_
    simp only [f32, ruA, ruB, ruC, ruE, ruD, lenStr, Int.reduceBEq, Int.reduceBNe, hs.len, show ((([] : List UInt8).length : Nat) : Int) = 0 from rfl]
    exact Ev.pure _
  | cons c l =>
    have k1 : Keep (all H) H (H.push ⟨SET BLANKS, 1, true⟩) := push_keep
    have k2 : Keep (all (H.push ⟨SET BLANKS, 1, true⟩)) (H.push ⟨SET BLANKS, 1, true⟩) ((H.push ⟨SET BLANKS, 1, true⟩).push ⟨SET BLANKS, 1, true⟩) := push_keep
    have hbx : Box (all ((H.push ⟨SET BLANKS, 1, true⟩).push ⟨SET BLANKS, 1, true⟩)) ((H.push ⟨SET BLANKS, 1, true⟩).push ⟨SET BLANKS, 1, true⟩) (H.push ⟨SET BLANKS, 1, true⟩).n (SET BLANKS) := push_boxA
    obtain ⟨v', g1, g2⟩ := tl_loop hbx (c :: l) v (Sl.keep (Sl.keep hs (k1.of_all hR)) (k2.of_all (hR.mono k1.1))) hb
    refine ⟨v', _, ?_, g2, k1.tr k2⟩
    have e0 : ((((c :: l).length : Nat) : Int) == 0) = false := by simp; omega
    have e1 : ((bs BLANKS).toList == ByteArray.toList ⟨#[]⟩) = false := by rw [e_empty']; rfl
    have e2 : (((bs BLANKS).size : Int) == 1) = false := by rw [bs_size]; rfl
    refine Ev.enter (fun n => f32_eq rfl n _ _ _) ?_
    simp only [f32, ruA, ruB, ruC, ruE, ruD, lenStr, Int.reduceBEq, Int.reduceBNe, hs.len, e0, e1, e2]
    refine Ev.callC (set_ok H) ?_
    simp only [ruA, ruB, ruC, ruE, ruD, lenStr, Int.reduceBEq, Int.reduceBNe, new256, stA_push SET_len SET_len SET_all]
    refine Ev.callC (Ev.enter (fun n => f45_eq rfl n _ _ _) g1.loop) ?_
    exact Ev.pure _

/-! ### cut -/
theorem nums_U : ∀ (l : List UInt8), (B (U l)).mapM numOf = some (l.map fun c => (c.toNat : Int))
  | [] => rfl
  | c :: l => by
    have := nums_U l
    simp only [B, U, List.map_cons, List.mapM_cons] at this ⊢
    rw [this]
    rfl
theorem bytesOf_U (l : List UInt8) : Lib.bytesOf (l.map fun c => (c.toNat : Int)) = l := by
  unfold Lib.bytesOf
  rw [List.map_map]
  conv => rhs; rw [← List.map_id l]
  apply List.map_congr_left
  intro x _
  simp
theorem Sl.form {R : Nat → Prop} {H : Heap} {sz n : Nat} {v : Value} {cs : List Value} (h : Sl R H sz v n cs) : ∃ a m k, v = .slice a m k := by
  rcases h with ⟨rfl, _⟩ | ⟨b, o, sp, cap, rfl, _⟩ | ⟨b, o, sp, cap, blk, rfl, _⟩ <;> exact ⟨_, _, _, rfl⟩
theorem idxb71 {R : Nat → Prop} {H : Heap} {l : List UInt8} {v : Value} (h : SlU R H l v) (c : UInt8) : Cl 67 [v, .int .u8 (c.toNat : Int)] H (.int .i64 (Lib.indexByte l c)) H := by
  have h83 : Cl 79 [v, .int .u8 (c.toNat : Int)] H (.int .i64 (Lib.indexByte l c)) H := by
    refine ClP.extern Tryd.func79 (by kernel_rfl) (by kernel_rfl) (by kernel_rfl) ?_
    have ha := h.addend
    obtain ⟨a, m, k, rfl⟩ := Sl.form h
    simp only [idxX, ha, nums_U, bytesOf_U, byte_back]
  refine Ev.enter (fun n => f67_eq rfl n _ _ _) ?_
  simp only [f67, ruA, ruB, ruC, ruE, ruD, lenStr, Int.reduceBEq, Int.reduceBNe]
  refine Ev.callC h83 ?_
  exact Ev.pure _
theorem index1_ok {R R' : Nat → Prop} {H : Heap} {l : List UInt8} {v w : Value} {c : UInt8} (h : SlU R H l v) (hw : SlU R' H [c] w) : Cl 47 [v, w] H (.int .i64 (Lib.indexByte l c)) H := by
  obtain ⟨p, p1, p2⟩ := hw.at (i := 0) (c := c) rfl
  simp only [Int.natCast_zero] at p1
  refine Ev.enter (fun n => f47_eq rfl n _ _ _) ?_
  simp only [f47, ruA, ruB, ruC, ruE, ruD, lenStr, Int.reduceBEq, Int.reduceBNe, hw.len, show ((([c] : List UInt8).length : Nat) : Int) = 1 from rfl, show ((1 : Int) == 0) = false from rfl, p1, p2]
  refine Ev.callC (idxb71 h c) ?_
  exact Ev.pure _
theorem indexB : ∀ (l : List UInt8) (c : UInt8), (c ∈ l ∧ Lib.indexByte l c = ((l.takeWhile (fun x => decide (x ≠ c))).length : Int) ∧ (l.takeWhile (fun x => decide (x ≠ c))).length < l.length) ∨ (c ∉ l ∧ Lib.indexByte l c = -1)
  | [], c => .inr ⟨by simp, rfl⟩
  | b :: l, c => by
    simp only [Lib.indexByte]
    by_cases h : b = c
    · subst h
      exact .inl ⟨by simp, by simp, by simp⟩
    · have h' : ¬ c = b := fun e => h e.symm
      have e : (b == c) = false := by simpa using h
      rcases indexB l c with ⟨h1, h2, h3⟩ | ⟨h1, h2⟩
      · left
        refine ⟨by simp [h1], ?_, ?_⟩
        · rw [e, h2]
          have : ¬ ((((l.takeWhile (fun x => decide (x ≠ c))).length : Int)) == -1) = true := by
            intro hq
            have := beq_iff_eq.1 hq
            omega
          simp only [Bool.false_eq_true, if_false, this]
          simp [h]
        · simpa [h] using h3
      · right
        refine ⟨by simp [h1, h'], ?_⟩
        rw [e, h2]; rfl
theorem dropTake {α : Type} (p : α → Bool) : ∀ (l : List α), l.drop (l.takeWhile p).length = l.dropWhile p
  | [] => rfl
  | a :: l => by
    by_cases h : p a
    · simp [h, dropTake p l]
    · simp [h]
theorem take_notmem : ∀ {l : List UInt8} {c : UInt8}, c ∉ l → l.dropWhile (fun x => decide (x ≠ c)) = []
  | [], _, _ => rfl
  | a :: l, c, h => by
    simp only [List.mem_cons, not_or] at h
    have h' : ¬ a = c := fun e => h.1 e.symm
    rw [List.dropWhile_cons, if_pos (by simpa using h')]
    exact take_notmem h.2
/-- What stands behind the first one. -/
theorem cut_ok {R R' : Nat → Prop} {H : Heap} {l : List UInt8} {v w : Value} {c : UInt8} (h : SlU R H l v) (hw : SlU R' H [c] w) (hb : l.length < 9223372036854775807) :
    ∃ a r t, Cl 33 [v, w] H (.tuple #[a, r, .bool t]) H ∧ SlU R H ((l.dropWhile (fun x => decide (x ≠ c))).drop 1) r := by
  rcases indexB l c with ⟨h1, h2, h3⟩ | ⟨h1, h2⟩
  · obtain ⟨a, a1, a2⟩ := h.take (i := (l.takeWhile (fun x => decide (x ≠ c))).length) (by omega)
    obtain ⟨r, r1, r2⟩ := h.drop (k := .i64) (i := (l.takeWhile (fun x => decide (x ≠ c))).length + 1) (by omega)
    refine ⟨a, r, true, ?_, ?_⟩
    · refine Ev.enter (fun n => f33_eq rfl n _ _ _) ?_
      simp only [f33, ruA, ruB, ruC, ruE, ruD, lenStr, Int.reduceBEq, Int.reduceBNe]
      refine Ev.callC (index1_ok h hw) ?_
      have e : ((((l.takeWhile (fun x => decide (x ≠ c))).length : Nat) : Int) ≥ 0) = True := by simp
      simp only [ruA, ruB, ruC, ruE, ruD, lenStr, Int.reduceBEq, Int.reduceBNe, h2, e, a1, hw.len, show ((([c] : List UInt8).length : Nat) : Int) = 1 from rfl, idx_up (show (l.takeWhile (fun x => decide (x ≠ c))).length < 9223372036854775807 by omega), r1]
      exact Ev.pure _
    · rw [← List.drop_drop, dropTake] at r2
      exact r2
  · refine ⟨v, nilS, false, ?_, ?_⟩
    · refine Ev.enter (fun n => f33_eq rfl n _ _ _) ?_
      simp only [f33, ruA, ruB, ruC, ruE, ruD, lenStr, Int.reduceBEq, Int.reduceBNe]
      refine Ev.callC (index1_ok h hw) ?_
      simp only [ruA, ruB, ruC, ruE, ruD, lenStr, Int.reduceBEq, Int.reduceBNe, h2, eq_false (show ¬ (-1 : Int) ≥ 0 by decide)]
      exact Ev.pure _
    · rw [take_notmem h1]
      exact .inl ⟨rfl, rfl, rfl⟩
end Go.Eng
