import Derived.Test.YtimhmmeoliagjaaDoorZB
import Derived.Test.YtimhmmeoliagjaaDoorZI
set_option linter.unusedVariables false
set_option linter.unusedSimpArgs false
set_option linter.unusedSectionVars false
set_option maxRecDepth 100000
namespace Go.Eng
open Go Go.Proofs
open Tryd (prog)

theorem star_first {T : List Nat} {x t : Rx} {i j : Nat} (h : Mt T t i j) : t = .star x → i = j ∨ ∃ k, i < k ∧ Mt T x i k ∧ Mt T (.star x) k j := by
 induction h with
 | star0 h => intro _; exact .inl rfl
 | @starS y i k j h1 h2 ih1 ih2 =>
  intro he
  injection he with he
  subst he
  have := h1.le
  by_cases hk : i < k
  ·exact .inr ⟨k, hk, h1, h2⟩
  ·obtain rfl : i = k := by omega
   exact ih2 rfl
 | _ => intro he; cases he
section
variable {a b : Rx} {T : List Nat} (ha : a.size ≤ 1000) (hb : b.size ≤ 1000)
include ha
end
end Go.Eng

namespace Go.Eng

theorem behK_iff {fa fb : MF} {i j : Nat} : ∀ (d k : Nat), behK fa fb d k i j = true ↔ ∃ m, k ≤ m ∧ m < k + d ∧ m ≤ j ∧ fa i m = true ∧ fb m j = true
 | 0, k => by simp [behK]; omega
 | d + 1, k => by
  rw [behK, Bool.or_eq_true, behK_iff d (k + 1), Bool.and_eq_true, Bool.and_eq_true, decide_eq_true_eq]
  constructor
  ·rintro (⟨h1, h2, h3⟩ | ⟨m, h1, h2, h3⟩)
   ·exact ⟨k, Nat.le_refl _, by omega, h2, h1, h3⟩
   ·exact ⟨m, by omega, by omega, h3⟩
  ·rintro ⟨m, h1, h2, h3, h4, h5⟩
   by_cases he : m = k
   ·subst he; exact .inl ⟨h4, h3, h5⟩
   ·exact .inr ⟨m, by omega, by omega, h3, h4, h5⟩
theorem behF_iff {n : Nat} {fa fb : MF} {i j : Nat} (hi : i < n) (hj : j < n) : behF n fa fb i j = true ↔ ∃ m, i ≤ m ∧ m ≤ j ∧ fa i m = true ∧ fb m j = true := by
 unfold behF
 rw [behK_iff]
 constructor
 ·rintro ⟨m, h1, _, h2⟩; exact ⟨m, h1, h2⟩
 ·rintro ⟨m, h1, h2, h3⟩; exact ⟨m, h1, by omega, h2, h3⟩
def matT (T : List Nat) : Rx → MF
 | .nil => fun i j => decide (i = j)
 | .set s => fun i j => decide (j = i + 1) && (match T[i]? with | some c => s.testBit c | none => false)
 | .seq x y => behF (T.length + 1) (matT T x) (matT T y)
 | .alt x y => fun i j => matT T x i j || matT T y i j
 | .star x => oftF (T.length + 1) (matT T x)
 | .plus x => behF (T.length + 1) (matT T x) (oftF (T.length + 1) (matT T x))
inductive Stp (f : MF) : Nat → Nat → Nat → Prop where
 | one {i j : Nat} : i ≤ j → f i j = true → Stp f 1 i j
 | more {k i m j : Nat} : i ≤ m → f i m = true → Stp f k m j → Stp f (k + 1) i j
theorem Stp.le {f : MF} {k i j : Nat} (h : Stp f k i j) : i ≤ j ∧ 1 ≤ k := by
 induction h with
 | one h _ => exact ⟨h, Nat.le_refl _⟩
 | more h _ _ ih => exact ⟨by omega, by omega⟩
theorem Stp.split {f : MF} : ∀ (a : Nat) {k i j : Nat}, Stp f k i j → 1 ≤ a → a < k → ∃ m, Stp f a i m ∧ Stp f (k - a) m j
 | 0, k, i, j, h, h1, _ => by omega
 | a + 1, k, i, j, h, h1, h2 => by
  cases h with
  | one _ _ => omega
  | @more k _ m _ q1 q2 q3 =>
   by_cases ha : a = 0
   ·subst ha
    exact ⟨m, .one q1 q2, by simpa using q3⟩
   ·obtain ⟨p, r1, r2⟩ := Stp.split a q3 (by omega) (by omega)
    exact ⟨p, .more q1 q2 r1, by rw [show k + 1 - (a + 1) = k - a by omega]; exact r2⟩
theorem Stp.join {f : MF} {a i m : Nat} (h : Stp f a i m) {b j : Nat} (h' : Stp f b m j) : Stp f (a + b) i j := by
 induction h with
 | one h1 h2 => rw [Nat.add_comm]; exact .more h1 h2 h'
 | more h1 h2 _ ih => rw [Nat.add_right_comm]; exact .more h1 h2 (ih h')
theorem it_of {n : Nat} : ∀ (k m : Nat) (f g : MF) (i j : Nat), i < n → j < n → (∀ i j, i < n → j < n → f i j = true → ∃ a, Stp g a i j) → itF n k m f i j = true → ∃ a, Stp g a i j
 | 0, m, f, g, i, j, hi, hj, hf, h => hf i j hi hj h
 | k + 1, m, f, g, i, j, hi, hj, hf, h => by
  rw [itF] at h
  split at h
  ·refine it_of k (2 * m) (sqF n f) g i j hi hj (fun i j hi hj hs => ?_) h
   unfold sqF at hs
   rw [Bool.or_eq_true, behF_iff hi hj] at hs
   rcases hs with hs | ⟨p, h1, h2, h3, h4⟩
   ·exact hf i j hi hj hs
   ·obtain ⟨a, s1⟩ := hf i p hi (by omega) h3
    obtain ⟨b, s2⟩ := hf p j (by omega) hj h4
    exact ⟨a + b, s1.join s2⟩
  ·exact hf i j hi hj h
theorem to_it {n : Nat} : ∀ (k m : Nat) (f g : MF) (i j : Nat), i < n → j < n → 2 * n ≤ m * 2 ^ k → (∀ a i j, i < n → j < n → 1 ≤ a → a ≤ m → Stp g a i j → f i j = true) → ∀ a, 1 ≤ a → a ≤ 2 * n → Stp g a i j → itF n k m f i j = true
  | 0, m, f, g, i, j, hi, hj, hm, hf, a, h1, h2, h => hf a i j hi hj h1 (by rw [Nat.pow_zero, Nat.mul_one] at hm; omega) h
  | k + 1, m, f, g, i, j, hi, hj, hm, hf, a, h1, h2, h => by
    rw [itF]
    split
    · refine to_it k (2 * m) (sqF n f) g i j hi hj (by rw [Nat.pow_succ] at hm; have : 2 * m * 2 ^ k = m * (2 ^ k * 2) := by rw [Nat.mul_comm 2 m, Nat.mul_assoc, Nat.mul_comm 2 (2 ^ k)]
                                                       omega) (fun a i j hi hj h1 h2 h => ?_) a h1 h2 h
      unfold sqF
      rw [Bool.or_eq_true, behF_iff hi hj]
      by_cases ha : a ≤ m
      · exact .inl (hf a i j hi hj h1 ha h)
      · by_cases hm0 : m = 0
        · subst hm0; omega
        obtain ⟨p, s1, s2⟩ := Stp.split m h (by omega) (by omega)
        have l1 := s1.le
        have l2 := s2.le
        exact .inr ⟨p, l1.1, l2.1, hf m i p hi (by omega) (by omega) (Nat.le_refl _) s1, hf (a - m) p j (by omega) hj (by omega) (by omega) s2⟩
    · exact hf a i j hi hj h1 (by omega) h
theorem star_stp {T : List Nat} {x : Rx} (hx : ∀ i j, i ≤ T.length → j ≤ T.length → (matT T x i j = true ↔ Mt T x i j)) {k i j : Nat} (h : Stp (matT T x) k i j) : j ≤ T.length → Mt T (.star x) i j := by
 induction h with
 | one h1 h2 => intro hj; exact .starS ((hx _ _ (by omega) hj).1 h2) (.star0 hj)
 | more h1 h2 h3 ih => intro hj; have := h3.le; exact .starS ((hx _ _ (by omega) (by omega)).1 h2) (ih hj)
theorem stp_star {T : List Nat} {x : Rx} (hx : ∀ i j, i ≤ T.length → j ≤ T.length → (matT T x i j = true ↔ Mt T x i j)) : ∀ (d i j : Nat), j - i ≤ d → Mt T (.star x) i j → i = j ∨ ∃ k, k ≤ j - i ∧ Stp (matT T x) k i j
 | 0, i, j, hd, h => .inl (by have := h.le; omega)
 | d + 1, i, j, hd, h => by
  have hle := h.le
  rcases star_first h rfl with h0 | ⟨k, hk, h1, h2⟩
  ·exact .inl h0
  ·have l1 := h1.le
   have l2 := h2.le
   have hm := (hx i k (by omega) (by omega)).2 h1
   rcases stp_star hx d k j (by omega) h2 with rfl | ⟨a, ha, s⟩
   ·exact .inr ⟨1, by omega, .one (by omega) hm⟩
   ·exact .inr ⟨a + 1, by omega, .more (by omega) hm s⟩
theorem oft_iff {T : List Nat} {x : Rx} (hx : ∀ i j, i ≤ T.length → j ≤ T.length → (matT T x i j = true ↔ Mt T x i j)) {i j : Nat} (hi : i ≤ T.length) (hj : j ≤ T.length) : oftF (T.length + 1) (matT T x) i j = true ↔ Mt T (.star x) i j := by
 unfold oftF
 rw [Bool.or_eq_true, decide_eq_true_eq]
 constructor
 ·rintro (rfl | h)
  ·exact .star0 hi
  ·obtain ⟨a, s⟩ := it_of (T.length + 1) 1 (matT T x) (matT T x) i j (by omega) (by omega) (fun i j h1 h2 h => ⟨1, .one (((hx i j (by omega) (by omega)).1 h).le).1 h⟩) h
   exact star_stp hx s hj
 ·intro h
  rcases stp_star hx (j - i) i j (Nat.le_refl _) h with h0 | ⟨a, ha, s⟩
  ·exact .inl h0
  ·refine .inr (to_it (T.length + 1) 1 (matT T x) (matT T x) i j (by omega) (by omega) (two_pow_ge _ (by omega)) (fun a i j h1 h2 h3 h4 h => ?_) a s.le.2 (by omega) s)
   obtain rfl : a = 1 := by omega
   cases h with
   | one _ h => exact h
   | more _ _ h => have := h.le; omega
theorem matT_iff (T : List Nat) : ∀ (t : Rx) (i j : Nat), i ≤ T.length → j ≤ T.length → (matT T t i j = true ↔ Mt T t i j)
 | .nil, i, j, hi, hj => by
  rw [matT, decide_eq_true_eq]
  exact ⟨fun h => by subst h; exact .nil hi, fun h => by cases h; rfl⟩
 | .set s, i, j, hi, hj => by
  rw [matT, Bool.and_eq_true, decide_eq_true_eq]
  constructor
  ·rintro ⟨rfl, h⟩
   cases hc : T[i]? with
   | none => rw [hc] at h; cases h
   | some c => rw [hc] at h; exact .set hc h
  ·intro h
   cases h with
   | set h1 h2 => rw [h1]; exact ⟨rfl, h2⟩
 | .seq x y, i, j, hi, hj => by
  rw [matT, behF_iff (by omega) (by omega), seq_iff]
  constructor
  ·rintro ⟨m, h1, h2, h3, h4⟩
   exact ⟨m, (matT_iff T x i m hi (by omega)).1 h3, (matT_iff T y m j (by omega) hj).1 h4⟩
  ·rintro ⟨m, h1, h2⟩
   have l1 := h1.le
   have l2 := h2.le
   exact ⟨m, l1.1, l2.1, (matT_iff T x i m hi (by omega)).2 h1, (matT_iff T y m j (by omega) hj).2 h2⟩
 | .alt x y, i, j, hi, hj => by
  rw [matT, Bool.or_eq_true, alt_iff, matT_iff T x i j hi hj, matT_iff T y i j hi hj]
 | .star x, i, j, hi, hj => by
  rw [matT]
  exact oft_iff (fun i j hi hj => matT_iff T x i j hi hj) hi hj
 | .plus x, i, j, hi, hj => by
  rw [matT, behF_iff (by omega) (by omega)]
  have hx := fun i j hi hj => matT_iff T x i j hi hj
  constructor
  ·rintro ⟨m, h1, h2, h3, h4⟩
   exact .plus ((hx i m hi (by omega)).1 h3) ((oft_iff hx (by omega) hj).1 h4)
  ·intro h
   cases h with
   | plus h1 h2 =>
    have l1 := h1.le
    have l2 := h2.le
    exact ⟨_, l1.1, l2.1, (hx _ _ hi (by omega)).2 h1, (oft_iff hx (by omega) hj).2 h2⟩
theorem mat_takes {T : List Nat} {t : Rx} (ht : t.size ≤ 1000000) : matT T t 0 T.length = takesN (t.flat 0) T := by
 rw [Bool.eq_iff_iff, matT_iff T t 0 T.length (by omega) (by omega), tk_iff ht]
end Go.Eng

namespace Go.Eng
open Go Go.Proofs
open Tryd (prog)

theorem At.uniq {l : List Nd} : ∀ {x y : Rx} {q q' : Nat}, At l q x → At l q' y → q + x.size = q' + y.size → x = y := by
 intro x
 induction x with
 | nil =>
  intro y q q' hx hy he
  have h1 := hx.top; have h2 := hy.top
  rw [he] at h1; rw [h1] at h2
  cases y <;> simp [Rx.top] at h2
  rfl
 | set s =>
  intro y q q' hx hy he
  have h1 := hx.top; have h2 := hy.top
  rw [he] at h1; rw [h1] at h2
  cases y <;> simp [Rx.top] at h2
  rw [h2]
 | seq a b iha ihb =>
  intro y q q' hx hy he
  have h1 := hx.top; have h2 := hy.top
  rw [he] at h1; rw [h1] at h2
  have pa := a.size_pos; have pb := b.size_pos
  cases y with
  | seq a' b' =>
   have pa' := a'.size_pos; have pb' := b'.size_pos
   simp only [Rx.top, Option.some.injEq, Nd.mk.injEq, true_and] at h2
   have ea := iha hx.seq.1 hy.seq.1 (by omega)
   have eb := ihb hx.seq.2 hy.seq.2 (by omega)
   rw [ea, eb]
  | _ => simp [Rx.top] at h2
 | alt a b iha ihb =>
  intro y q q' hx hy he
  have h1 := hx.top; have h2 := hy.top
  rw [he] at h1; rw [h1] at h2
  have pa := a.size_pos; have pb := b.size_pos
  cases y with
  | alt a' b' =>
   have pa' := a'.size_pos; have pb' := b'.size_pos
   simp only [Rx.top, Option.some.injEq, Nd.mk.injEq, true_and] at h2
   have ea := iha hx.alt.1 hy.alt.1 (by omega)
   have eb := ihb hx.alt.2 hy.alt.2 (by omega)
   rw [ea, eb]
  | _ => simp [Rx.top] at h2
 | star a iha =>
  intro y q q' hx hy he
  have h1 := hx.top; have h2 := hy.top
  rw [he] at h1; rw [h1] at h2
  have pa := a.size_pos
  cases y with
  | star a' =>
   have pa' := a'.size_pos
   simp only [Rx.top, Option.some.injEq, Nd.mk.injEq, true_and, and_true] at h2
   rw [iha hx.star hy.star (by omega)]
  | _ => simp [Rx.top] at h2
 | plus a iha =>
  intro y q q' hx hy he
  have h1 := hx.top; have h2 := hy.top
  rw [he] at h1; rw [h1] at h2
  have pa := a.size_pos
  cases y with
  | plus a' =>
   have pa' := a'.size_pos
   simp only [Rx.top, Option.some.injEq, Nd.mk.injEq, true_and, and_true] at h2
   rw [iha hx.plus hy.plus (by omega)]
  | _ => simp [Rx.top] at h2
section
variable {H : Heap} {T : List Nat} {vt : Value} (hT : T.length ≤ 100) (hTb : ∀ c ∈ T, c < 256) (ht : Sl (all H) H 1 vt T.length (B T))
include hT hTb ht
theorem rhas_ok (s : Nat) {c : Nat} (hc : c < 256) (G : Heap) : ∃ H', ClX 62 [.agg (SC s).toArray, .int .u8 (c : Int)] G (.bool (s.testBit c)) H' ∧ Keep (all G) G H' := by
 refine ⟨G.push ⟨SC s, 1, true⟩, Ev.enter (fun n => f62_eq rfl n _ _ _) ?_, push_keep⟩
 have hq : wrd s (c / 64) / 2 ^ (c % 64) < 18446744073709551616 := Nat.lt_of_le_of_lt (Nat.div_le_self _ _) (wrd_lt _ _)
 have ha : binB prog .and 54 (.int .u64 ((wrd s (c / 64) / 2 ^ (c % 64) : Nat) : Int)) (.int .u64 1) = some (.int .u64 (((wrd s (c / 64) / 2 ^ (c % 64)) &&& 1 : Nat) : Int)) := u64_and (b := 1) hq (by decide)
 have hl : ldC (ptr G.n (c / 64)) (G.push ⟨SC s, 1, true⟩) = some (.int .u64 (wrd s (c / 64) : Int), G.push ⟨SC s, 1, true⟩) := ldG push_self (W4_at (wrd s) (i := c / 64) (by omega))
 have e1 : binB prog .shr 54 (.int .u64 (wrd s (c / 64) : Int)) (.int .u8 ((c % 64 : Nat) : Int)) = some (.int .u64 ((wrd s (c / 64) / 2 ^ (c % 64) : Nat) : Int)) := u64_shr (by omega)
 simp only [f62, ruZ, Int.reduceBEq, Int.reduceBNe, newA (SC_one s), u8_q64 hc, iA (show c / 64 < 4 by omega), hl, u8_r64, e1, ha, test_div]
 exact Ev.pure _
theorem set_loop {s q3 : Nat} {bM : Nat} {rb : Nat → Nat} (h3 : q3 < H.n) (hs : ∀ {G : Heap}, Keep (all H) H G → ldA 4 (ptr q3 1) G = some (.agg (SC s).toArray, G)) : ∀ (d i : Nat) (G : Heap) (f : MF), i + d = T.length → Keep (all H) H G → OM H.n G bM rb (T.length + 1) f →
  ∃ (G' : Heap) (f' : MF), Ev (fun m j => f44_L0 real (AX m) m j vt (ptr q3 0) (sliceN bM (T.length + 1)) (.int .i64 (i : Int)) G) (sliceN bM (T.length + 1), G') ∧ Keep (all H) H G' ∧ OM H.n G' bM rb (T.length + 1) f' ∧
   ∀ a b, f' a b = if i ≤ a ∧ a < T.length ∧ b = a + 1 then (match T[a]? with | some c => s.testBit c | none => false) else f a b := by
 intro d
 induction d with
 | zero =>
  intro i G f hi kG h
  obtain rfl : i = T.length := by omega
  refine ⟨G, f, Ev.step (fun n m => f44_L0.eq_2 _ _ _ _ _ _ _ _ m) ?_, kG, h, fun a b => by rw [if_neg (by omega)]⟩
  have e : ((T.length : Int) < (T.length : Int)) = False := by simp
  simp only [ruZ, Int.reduceBEq, Int.reduceBNe, ht.lenS, e]
  exact Ev.pure _
 | succ d ih =>
  intro i G f hi kG h
  have hil : i < T.length := by omega
  obtain ⟨c, hc⟩ : ∃ c, T[i] = c := ⟨_, rfl⟩
  have hTi : T[i]? = some c := by rw [List.getElem?_eq_getElem hil, hc]
  have hc256 : c < 256 := by rw [← hc]; exact hTb _ (List.getElem_mem hil)
  obtain ⟨p, p1, p2⟩ := (ht.keep kG).at1 (i := i) (x := .int .u8 (c : Int)) (by simp [B, hTi])
  obtain ⟨r1, r2⟩ := h.row (i := i) (by omega)
  obtain ⟨G1, c1, k1⟩ := rhas_ok hT hTb ht s hc256 G
  have h1 := h.keep k1
  obtain ⟨x1, _⟩ := h1.cell (i := i) (j := i + 1) (by omega) (by omega)
  obtain ⟨G2, s2, h2, k2⟩ := h1.set (i := i) (j := i + 1) (by omega) (by omega) (s.testBit c)
  have kG2 : Keep (all H) H G2 := (kG.trans (k1.mono (upA kG))).trans k2
  obtain ⟨G', f', e1, e2, e3, e4⟩ := ih (i + 1) G2 _ (by omega) kG2 h2
  have sb : sameBlk G G1 (blkOf (ptr bM i)) = true := blk_keep h.u k1
  refine ⟨G', f', Ev.step (fun n m => f44_L0.eq_2 _ _ _ _ _ _ _ _ m) ?_, e2, e3, fun a b => ?_⟩
  ·have e : ((i : Int) < (T.length : Int)) = True := eq_true (by omega)
   have hup := idx_up (i := i) (by omega)
   simp only [ruZ, Int.reduceBEq, Int.reduceBNe, ht.lenS, e, r1, r2, hup, hs kG, p1, p2]
   refine Ev.callC c1 ?_
   simp only [ruZ, Int.reduceBEq, Int.reduceBNe, sb, Bool.and_true, x1, s2, hup]
   exact e1
  ·rw [e4, updF]
   by_cases hx : i + 1 ≤ a ∧ a < T.length ∧ b = a + 1
   ·rw [if_pos hx, if_pos ⟨by omega, hx.2⟩]
   ·rw [if_neg hx]
    by_cases h2 : a = i ∧ b = i + 1
    ·rw [if_pos h2, if_pos ⟨by omega, by omega, by omega⟩, h2.1, hTi]
    ·rw [if_neg h2, if_neg (by omega)]
theorem pieces_ok {l : List Nd} {vk : Value} {kv : Nat → Value} {i q : Nat} {p : Rx} (hp : At l q p) (hi : i = q + p.size - 1) (hq : q + p.size ≤ 1000000) (hk : Sl (all H) H 1 vk i ((List.range i).map kv))
  (hM : ∀ (x : Rx) (o : Nat), At l o x → o + x.size - 1 < i → MV (all H) H (kv (o + x.size - 1)) (T.length + 1) (matT T x)) :
  ∃ v H', ClX 44 [.agg (ND (p.top q)).toArray, vt, vk] H v H' ∧ MV (Fr H.n H') H' v (T.length + 1) (matT T p) ∧ Keep (all H) H H' := by
 obtain ⟨nd, hnd⟩ : ∃ nd, p.top q = nd := ⟨_, rfl⟩
 rw [hnd]
 obtain ⟨H1, hH1⟩ : ∃ H1, H.push ⟨ND nd, 1, true⟩ = H1 := ⟨_, rfl⟩
 have n1 : H1.n = H.n + 1 := by rw [← hH1]; rfl
 have k1 : Keep (all H) H H1 := by rw [← hH1]; exact push_keep
 have g1 : H1.get H.n = some ⟨ND nd, 1, true⟩ := by rw [← hH1]; exact push_self
 have nA : newV (Value.cells (.agg (ND nd).toArray)).toList H = some (ptr H.n 0, H1) := by rw [newA rfl, hH1]
 have w1 : IntKind.i64.wrap ((T.length : Int) + 1) = ((T.length + 1 : Nat) : Int) := idx_up (by omega)
 have kat : ∀ {G : Heap}, Keep (all H) H G → ∀ k, k < i → ∃ a, iAddrS 1 vk (.int .i64 (k : Int)) = some a ∧ ldC a G = some (kv k, G) ∧ ∃ b o, a = ptr b o ∧ b < H.n := fun kk k hki => by
  obtain ⟨b, o, q1, q2, q3, _⟩ := (hk.keep kk).atN hki
  exact ⟨_, q1, q3 0 (kv k) (by omega) (by simp [hki]), b, o, rfl, q2⟩
 have sM : ∀ (x : Rx) (o : Nat), At l o x → o + x.size - 1 < i → MV (all H1) H1 (kv (o + x.size - 1)) (T.length + 1) (matT T x) := fun x o hx ho => (hM x o hx ho).up k1
 have frM : ∀ {G : Heap} {v : Value} {f : MF}, MV (Fr H1.n G) G v (T.length + 1) f → MV (Fr H.n G) G v (T.length + 1) f := fun h => h.mono fun q hq => ⟨by have := hq.1; omega, hq.2⟩
 cases p with
 | nil =>
  obtain ⟨v, H2, c2, m2, k2⟩ := empty_m (n := T.length + 1) (by omega) (by omega) H1
  refine ⟨v, H2, Ev.enter (fun n => f44_eq rfl n _ _ _ _) ?_, frM m2, k1.trans (k2.mono (upA k1))⟩
  have ek : nd.kind = 1 := by rw [← hnd]; rfl
  simp only [f44, ruZ, Int.reduceBEq, Int.reduceBNe, nA, ht.lenS, w1, nd0 g1, ek]
  exact Ev.callC c2 (Ev.pure _)
 | set s =>
  obtain ⟨bM, rb, H2, c2, m2, k2⟩ := none_m (n := T.length + 1) (by omega) (by omega) H1
  have k12 := k1.trans (k2.mono (upA k1))
  have es : nd.set = s := by rw [← hnd]; rfl
  obtain ⟨H3, f', e1, e2, e3, e4⟩ := set_loop (H := H1) (s := s) (q3 := H.n) hT hTb ((ht.keep k1).mono (upA k1)) (by omega) (fun kk => by
   have := nd1 (show _ = _ from (kk.2 _ (show H.n < H1.n by omega)).trans g1)
   rw [es] at this; exact this) T.length 0 H2 _ (by omega) k2 m2
  refine ⟨sliceN bM (T.length + 1), H3, Ev.enter (fun n => f44_eq rfl n _ _ _ _) ?_, frM (e3.mf.congr fun a b ha hb => ?_), k1.trans (e2.mono (upA k1))⟩
  ·have ek : nd.kind = 2 := by rw [← hnd]; rfl
   simp only [f44, ruZ, Int.reduceBEq, Int.reduceBNe, nA, ht.lenS, w1, nd0 g1, ek]
   refine Ev.callC c2 ?_
   exact Ev.loop e1
  ·rw [e4]
   show _ = (decide (b = a + 1) && (match T[a]? with | some c => s.testBit c | none => false))
   by_cases hb1 : b = a + 1
   ·rw [if_pos ⟨by omega, by omega, hb1⟩, decide_eq_true hb1, Bool.true_and]
   ·rw [if_neg fun h => hb1 h.2.2, decide_eq_false hb1, Bool.false_and]
 | seq x y =>
  have px := x.size_pos; have py := y.size_pos
  simp only [Rx.size] at hi hq
  have hx := sM x q hp.seq.1 (by omega)
  have hy := sM y (q + x.size) hp.seq.2 (by omega)
  obtain ⟨v, H2, c2, m2, k2⟩ := behind_m (by omega) (by omega) hx hy
  obtain ⟨a1, a2, a3, ab, ao, rfl, ah⟩ := kat k1 (q + x.size - 1) (by omega)
  obtain ⟨b1, b2, b3, _⟩ := kat k1 (q + x.size + y.size - 1) (by omega)
  refine ⟨v, H2, Ev.enter (fun n => f44_eq rfl n _ _ _ _) ?_, frM m2, k1.trans (k2.mono (upA k1))⟩
  have ek : nd.kind = 3 := by rw [← hnd]; rfl
  have z5 := nd5 g1
  have z6 := nd6 g1
  rw [show nd.a = ((q + x.size - 1 : Nat) : Int) by rw [← hnd]; rfl] at z5
  rw [show nd.b = ((q + x.size + y.size - 1 : Nat) : Int) by rw [← hnd]; rfl] at z6
  simp only [f44, ruZ, Int.reduceBEq, Int.reduceBNe, nA, ht.lenS, w1, nd0 g1, ek, z5, a2, a3, z6, b2, b3]
  exact Ev.callC c2 (Ev.pure _)
 | alt x y =>
  have px := x.size_pos; have py := y.size_pos
  simp only [Rx.size] at hi hq
  have hx := sM x q hp.alt.1 (by omega)
  have hy := sM y (q + x.size) hp.alt.2 (by omega)
  obtain ⟨v, H2, c2, m2, k2⟩ := either_m (by omega) (by omega) hx hy
  obtain ⟨a1, a2, a3, ab, ao, rfl, ah⟩ := kat k1 (q + x.size - 1) (by omega)
  obtain ⟨b1, b2, b3, _⟩ := kat k1 (q + x.size + y.size - 1) (by omega)
  refine ⟨v, H2, Ev.enter (fun n => f44_eq rfl n _ _ _ _) ?_, frM m2, k1.trans (k2.mono (upA k1))⟩
  have ek : nd.kind = 4 := by rw [← hnd]; rfl
  have z5 := nd5 g1
  have z6 := nd6 g1
  rw [show nd.a = ((q + x.size - 1 : Nat) : Int) by rw [← hnd]; rfl] at z5
  rw [show nd.b = ((q + x.size + y.size - 1 : Nat) : Int) by rw [← hnd]; rfl] at z6
  simp only [f44, ruZ, Int.reduceBEq, Int.reduceBNe, nA, ht.lenS, w1, nd0 g1, ek, z5, a2, a3, z6, b2, b3]
  exact Ev.callC c2 (Ev.pure _)
 | star x =>
  have px := x.size_pos
  simp only [Rx.size] at hi hq
  have hx := sM x q hp.star (by omega)
  obtain ⟨v, H2, c2, m2, k2⟩ := often_m (by omega) (by omega) hx
  obtain ⟨a1, a2, a3, ab, ao, rfl, ah⟩ := kat k1 (q + x.size - 1) (by omega)
  refine ⟨v, H2, Ev.enter (fun n => f44_eq rfl n _ _ _ _) ?_, frM m2, k1.trans (k2.mono (upA k1))⟩
  have ek : nd.kind = 5 := by rw [← hnd]; rfl
  have z5 := nd5 g1
  rw [show nd.a = ((q + x.size - 1 : Nat) : Int) by rw [← hnd]; rfl] at z5
  simp only [f44, ruZ, Int.reduceBEq, Int.reduceBNe, nA, ht.lenS, w1, nd0 g1, ek, z5, a2, a3]
  exact Ev.callC c2 (Ev.pure _)
 | plus x =>
  have px := x.size_pos
  simp only [Rx.size] at hi hq
  have hx := sM x q hp.plus (by omega)
  obtain ⟨v1, H2, c2, m2, k2⟩ := often_m (by omega) (by omega) hx
  obtain ⟨v, H3, c3, m3, k3⟩ := behind_m (by omega) (by omega) (hx.up k2) (m2.mono (frA _ _))
  obtain ⟨a1, a2, a3, ab, ao, rfl, ah⟩ := kat k1 (q + x.size - 1) (by omega)
  refine ⟨v, H3, Ev.enter (fun n => f44_eq rfl n _ _ _ _) ?_, frM (m3.mono fun q hq => ⟨by have := hq.1; have := k2.1; omega, hq.2⟩), k1.trans ((k2.trans (k3.mono (upA k2))).mono (upA k1))⟩
  have ek : nd.kind = 6 := by rw [← hnd]; rfl
  have z5 := nd5 g1
  rw [show nd.a = ((q + x.size - 1 : Nat) : Int) by rw [← hnd]; rfl] at z5
  have sb1 : sameBlk H1 H2 (blkOf (ptr ab ao)) = true := blk_keep (by omega) k2
  have sb2 : sameBlk H1 H2 (blkOf (ptr H.n 5)) = true := blk_keep (by omega) k2
  simp only [f44, ruZ, Int.reduceBEq, Int.reduceBNe, nA, ht.lenS, w1, nd0 g1, ek, z5, a2, a3]
  refine Ev.callC c2 ?_
  simp only [ruZ, Int.reduceBEq, Int.reduceBNe, sb1, sb2, Bool.and_true]
  exact Ev.callC c3 (Ev.pure _)
end
end Go.Eng
