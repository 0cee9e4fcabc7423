import Derived.Test.YtmajmmknpajcgaaSK
import Derived.Test.YtmajmmknpajcgaaSAJ
/- bytes.Join with nothing between; Pad. -/
set_option linter.unusedVariables false
set_option linter.unusedSimpArgs false
set_option linter.unusedSectionVars false
set_option maxRecDepth 100000
namespace Go.Eng
open Go Go.Proofs

theorem mkNZ_ok {N : Nat} (hN : N ≤ 140737488355328) (H : Heap) : Cl 54 [.int .i64 (N : Int)] H (.slice (some ⟨H.n, 0, none⟩) N N) (H.push ⟨List.replicate N junkV, 1, true⟩) := by
  refine ⟨1, fun n m hn1 _ => ?_⟩
  obtain ⟨k, rfl⟩ : ∃ k, n = k + 1 := ⟨n - 1, by omega⟩
  have hb : Try.f54.body = none := by kernel_rfl
  have hn : (Try.f54.name == "runtime.NumGoroutine") = false := by kernel_rfl
  have h1 : ((Try.f54.name == "internal/bytealg.IndexByte" || Try.f54.name == "internal/bytealg.IndexByteString") && (Extern.findNext Try.f54).isNone) = false := by kernel_rfl
  have h2 : (Try.f54.name == "math/bits.Add64" && (Extern.findNext Try.f54).isNone) = false := by kernel_rfl
  have h3 : (Try.f54.name == "internal/bytealg.MakeNoZero" && (Extern.findNext Try.f54).isNone) = true := by kernel_rfl
  have hr : Try.f54.resultTypes.toList = [29] := by kernel_rfl
  have ho : (List.replicate N junkV).all Value.oneCell' = true := by simp [junkV, Value.oneCell']
  unfold acall
  simp only [Try.func54, hn, hb, externX, h1, h2, h3, if_true, Bool.false_eq_true, if_false, mkX, hr, Try.underlying29, newS]
  rw [if_pos (by omega)]
  simp only [Int.toNat_natCast, ho, if_true]

/-- What is filled, and what nobody knows. -/
def filled (N : Nat) (f : List Nat) : List Value := B f ++ List.replicate (N - f.length) junkV
theorem filled_len {N : Nat} {f : List Nat} (h : f.length ≤ N) : (filled N f).length = N := by simp [filled, B]; omega
theorem filled_all {f : List Nat} : filled f.length f = B f := by simp [filled]
theorem filled_more {N : Nat} {f d : List Nat} (h : f.length + d.length ≤ N) : splice (filled N f) f.length (B d) = filled N (f ++ d) := by
  have hf : (B f).length = f.length := B_length f
  simp only [splice, filled]
  rw [List.take_append_of_le_length (by omega), List.take_of_length_le (by omega), List.drop_append, List.drop_of_length_le (by rw [B_length]; omega), List.nil_append, B_append, B_length, hf, List.drop_replicate]
  congr 2
  rw [List.length_append]; omega
theorem cpy_fill {H : Heap} {R : Nat → Prop} {N c : Nat} {f d : List Nat} {v : Value} {sp : Option Nat} (h : f.length + d.length ≤ N) (hv : Sl R (H.push ⟨filled N f, 1, true⟩) 1 v d.length (B d)) :
    cpy 1 (.slice (some ⟨H.n, f.length, sp⟩) (N - f.length) c) v (H.push ⟨filled N f, 1, true⟩) = some (.int .i64 (d.length : Int), H.push ⟨filled N (f ++ d), 1, true⟩) := by
  have hk : Nat.min d.length (N - f.length) = d.length := Nat.min_eq_left (by omega)
  have ht : (B d).take (d.length * 1) = B d := by rw [Nat.mul_one, List.take_of_length_le (by rw [B_length]; omega)]
  simp only [cpy, hv.addend, push_self, hk, ht, filled_more h, push_updE]
  rw [if_pos]
  exact ⟨Blk.w_mk, by rw [filled_len (by omega)]; omega⟩
section
variable {H : Heap} {x v0 : Value} {vr : List Value} {d0 : List Nat} {dr : List (List Nat)} {N : Nat}
  (hx : Sl (all H) H 1 x (v0 :: vr).length (v0 :: vr)) (hp : PS (all H) H (v0 :: vr) (d0 :: dr)) (h1 : 1 ≤ vr.length) (hN : (d0 :: dr).flatten.length = N) (hN2 : N ≤ 1000000000000) (hV : vr.length ≤ 1000000)
include hx hp h1 hN hN2 hV
theorem join_L1 {y : Value} : ∀ (k i : Nat), i + k = vr.length → (∀ f : List Nat, Sl (all H) (H.push ⟨filled N f, 1, true⟩) 1 y vr.length vr) →
    Ev (fun n m => f41_L1 real (AC n) n m nilS (.slice (some ⟨H.n, 0, some 0⟩) N N) (.int .i64 (((d0 :: dr).take (i + 1)).flatten.length : Int)) y (.int .i64 (vr.length : Int)) (.int .i64 (i : Int)) (H.push ⟨filled N ((d0 :: dr).take (i + 1)).flatten, 1, true⟩))
      (.slice (some ⟨H.n, 0, some 0⟩) N N, H.push ⟨B (d0 :: dr).flatten, 1, true⟩) := by
  have hlen : vr.length = dr.length := by have := hp.1; simpa using this
  intro k
  induction k with
  | zero =>
    intro i hi hy
    refine Ev.step (fun n m => f41_L1.eq_2 _ _ _ _ _ _ _ _ _ _ _) ?_
    have ht : (d0 :: dr).take (i + 1) = d0 :: dr := List.take_of_length_le (by simp; omega)
    have e : ((i : Int) < (vr.length : Int)) = False := by simp; omega
    rw [ht]
    have hf : filled N (d0 :: dr).flatten = B (d0 :: dr).flatten := by rw [← hN]; exact filled_all
    rw [hf]
    simp only [ruA, ruB, ruC, ruE, ruD, lenStr, Int.reduceBEq, Int.reduceBNe, e]
    exact Ev.pure _
  | succ k ih =>
    intro i hi hy
    refine Ev.step (fun n m => f41_L1.eq_2 _ _ _ _ _ _ _ _ _ _ _) ?_
    have e : ((i : Int) < (vr.length : Int)) = True := by simp; omega
    obtain ⟨f, hf⟩ : ∃ f, ((d0 :: dr).take (i + 1)).flatten = f := ⟨_, rfl⟩
    obtain ⟨d, hd, _⟩ := drop_at (l := dr) (i := i) (by omega)
    obtain ⟨v, hv, hs⟩ := hp.2 (i + 1) d (by simpa using hd)
    have hv' : vr[i]? = some v := by simpa using hv
    have hfd : ((d0 :: dr).take (i + 1 + 1)).flatten = f ++ d := by rw [take_flat (d := d) (by simpa using hd), hf]
    have hle : f.length + d.length ≤ N := by
      rw [← hN, ← List.take_append_drop (i + 1 + 1) (d0 :: dr), List.flatten_append, hfd]; simp
    have hsf : ∀ g : List Nat, Sl (all H) (H.push ⟨filled N g, 1, true⟩) 1 v d.length (B d) := fun g => hs.keep push_keep
    obtain ⟨p, p1, p2⟩ := (hy f).at1 hv'
    rw [hf]
    have s1 : slcS 1 (.slice (some ⟨H.n, 0, some 0⟩) N N) (some (.int .i64 (f.length : Int))) none none = some (.slice (some ⟨H.n, f.length, some 0⟩) (N - f.length) (N - f.length)) := by
      simp only [slcS, bound]
      rw [if_pos (by omega)]
      simp only [Int.toNat_natCast, Option.isNone_none, Bool.true_or, and_true]
      rw [if_pos (by omega)]
      simp
    have c1 : cpy 1 (.slice (some ⟨H.n, f.length, some 0⟩) (N - f.length) (N - f.length)) nilS (H.push ⟨filled N f, 1, true⟩) = some (.int .i64 0, H.push ⟨filled N f, 1, true⟩) := by
      have := cpy_fill (H := H) (R := all H) (N := N) (c := N - f.length) (f := f) (d := []) (v := nilS) (sp := some 0) (by simp; omega) Sl.nil
      simpa using this
    have c2 := cpy_fill (H := H) (N := N) (c := N - f.length) (f := f) (sp := some 0) hle (hsf f)
    have w0 : IntKind.i64.wrap ((f.length : Int) + 0) = (f.length : Int) := by rw [wrap_i64 (by omega) (by omega)]; omega
    have w1 : IntKind.i64.wrap ((f.length : Int) + (d.length : Int)) = ((f ++ d).length : Int) := by rw [wrap_i64 (by omega) (by omega)]; simp
    simp only [ruA, ruB, ruC, ruE, ruD, lenStr, Int.reduceBEq, Int.reduceBNe, e, p1, p2, s1, c1, w0, c2, w1, idx_up (show i < 9223372036854775807 by omega)]
    have := ih (i + 1) (by omega) hy
    rw [hfd] at this
    exact this
theorem join_L0 : ∀ (k i : Nat), i + k = vr.length + 1 →
    Ev (fun n m => f41_L0 real (AC n) n m x nilS (.int .i64 (((d0 :: dr).take i).flatten.length : Int)) x (.int .i64 ((vr.length + 1 : Nat) : Int)) (.int .i64 (i : Int)) H)
      (.slice (some ⟨H.n, 0, some 0⟩) N N, H.push ⟨B (d0 :: dr).flatten, 1, true⟩) := by
  have hlen : vr.length = dr.length := by have := hp.1; simpa using this
  intro k
  induction k with
  | zero =>
    intro i hi
    refine Ev.step (fun n m => f41_L0.eq_2 _ _ _ _ _ _ _ _ _ _ m) ?_
    have ht : (d0 :: dr).take i = d0 :: dr := List.take_of_length_le (by simp; omega)
    have e : ((i : Int) < ((vr.length + 1 : Nat) : Int)) = False := by simp; omega
    rw [ht, hN]
    simp only [ruA, ruB, ruC, ruE, ruD, lenStr, Int.reduceBEq, Int.reduceBNe, e]
    refine Ev.callC (mkNZ_ok (by omega) H) ?_
    have s0 : slcS 1 (.slice (some ⟨H.n, 0, none⟩) N N) none (some (.int .i64 (N : Int))) (some (.int .i64 (N : Int))) = some (.slice (some ⟨H.n, 0, some 0⟩) N N) := by
      simp only [slcS, bound]
      rw [if_pos (by omega)]
      simp
    have hr : (⟨List.replicate N junkV, 1, true⟩ : Blk) = ⟨filled N [], 1, true⟩ := by simp [filled, B]
    rw [hr]
    obtain ⟨v, hv, hs⟩ := hp.2 0 d0 rfl
    obtain rfl : v0 = v := by simpa using hv
    have hx2 : ∀ f : List Nat, Sl (all H) (H.push ⟨filled N f, 1, true⟩) 1 x (v0 :: vr).length (v0 :: vr) := fun f => hx.keep push_keep
    obtain ⟨p, p1, p2⟩ := (hx2 []).at1 (i := 0) (x := v0) rfl
    have p1' : iAddrS 1 x (.int .i64 0) = some p := p1
    have hle : d0.length ≤ N := by rw [← hN]; simp
    have c1 := cpy_fill (H := H) (N := N) (c := N) (f := []) (d := d0) (v := v0) (sp := some 0) (by simpa using hle) (hs.keep push_keep)
    simp only [List.length_nil, Nat.sub_zero, List.nil_append] at c1
    obtain ⟨y, y1, y2⟩ := (hx2 []).drop (k := .i64) (i := 1) (by simp)
    have y1' : slcS 1 x (some (.int .i64 1)) none none = some y := y1
    have y2' : Sl (all H) (H.push ⟨filled N [], 1, true⟩) 1 y vr.length vr := by simpa using y2
    have hy : ∀ f : List Nat, Sl (all H) (H.push ⟨filled N f, 1, true⟩) 1 y vr.length vr := fun f => by
      refine Sl.keep y2' ⟨Nat.le_refl _, fun b hb => ?_⟩
      have hb' : b < H.n := hb
      rw [push_lt hb', push_lt hb']
    simp only [ruA, ruB, ruC, ruE, ruD, lenStr, Int.reduceBEq, Int.reduceBNe, s0, p1', p2, c1, y1', (hy d0).lenS]
    have hj := join_L1 hx hp h1 hN hN2 hV (y := y) vr.length 0 (by omega) hy
    have e0 : ((d0 :: dr).take (0 + 1)).flatten = d0 := by simp
    rw [e0] at hj
    exact Ev.loop hj
  | succ k ih =>
    intro i hi
    refine Ev.step (fun n m => f41_L0.eq_2 _ _ _ _ _ _ _ _ _ _ m) ?_
    have e : ((i : Int) < ((vr.length + 1 : Nat) : Int)) = True := by simp; omega
    obtain ⟨d, hd, _⟩ := drop_at (l := d0 :: dr) (i := i) (by simp; omega)
    obtain ⟨v, hv, hs⟩ := hp.2 i d hd
    obtain ⟨p, p1, p2⟩ := hx.at1 hv
    have hfd : ((d0 :: dr).take (i + 1)).flatten.length = ((d0 :: dr).take i).flatten.length + d.length := by rw [take_flat hd]; simp
    have hle : ((d0 :: dr).take (i + 1)).flatten.length ≤ N := by
      rw [← hN, ← List.take_append_drop (i + 1) (d0 :: dr), List.flatten_append]; simp
    have w0 : IntKind.i64.wrap (9223372036854775807 - (((d0 :: dr).take i).flatten.length : Int)) = 9223372036854775807 - (((d0 :: dr).take i).flatten.length : Int) := wrap_i64 (by omega) (by omega)
    have e2 : ((d.length : Int) > 9223372036854775807 - (((d0 :: dr).take i).flatten.length : Int)) = False := eq_false (by omega)
    have w1 : IntKind.i64.wrap ((((d0 :: dr).take i).flatten.length : Int) + (d.length : Int)) = (((d0 :: dr).take (i + 1)).flatten.length : Int) := by rw [wrap_i64 (by omega) (by omega), hfd]; omega
    simp only [ruA, ruB, ruC, ruE, ruD, lenStr, Int.reduceBEq, Int.reduceBNe, e, p1, p2, hs.lenS, w0, e2, f41_J1, w1, idx_up (show i < 9223372036854775807 by omega)]
    exact ih (i + 1) (by omega)
theorem join_ok : Cl 41 [x, nilS] H (.slice (some ⟨H.n, 0, some 0⟩) N N) (H.push ⟨B (d0 :: dr).flatten, 1, true⟩) := by
  refine Ev.enter (fun n => f41_eq rfl n _ _ _) ?_
  have hl : lenS x = some (.int .i64 ((vr.length + 1 : Nat) : Int)) := by have := hx.lenS; simpa using this
  have e0 : (((vr.length + 1 : Nat) : Int) == 0) = false := by simp; omega
  have e1 : (((vr.length + 1 : Nat) : Int) == 1) = false := by simp; omega
  have e2 : lenS nilS = some (.int .i64 0) := rfl
  have e3 : ((0 : Int) > 0) = False := by simp
  simp only [f41, ruA, ruB, ruC, ruE, ruD, lenStr, Int.reduceBEq, Int.reduceBNe, hl, e0, e1, e2, e3, f41_J2]
  exact Ev.loop (join_L0 hx hp h1 hN hN2 hV (vr.length + 1) 0 (by omega))
end
end Go.Eng

/- Pad: bytes, made a number of blocks. -/
set_option linter.unusedVariables false
set_option linter.unusedSimpArgs false
set_option linter.unusedSectionVars false
set_option maxRecDepth 100000
namespace Go.Eng
open Go Go.Proofs

def padZ (L : Nat) : Nat := (119 - L % 64) % 64
/-- A number's eight bytes. -/
def be8 (v : Nat) : List Nat := [v / 2 ^ 56 % 256, v / 2 ^ 48 % 256, v / 2 ^ 40 % 256, v / 2 ^ 32 % 256, v / 2 ^ 24 % 256, v / 2 ^ 16 % 256, v / 2 ^ 8 % 256, v / 2 ^ 0 % 256]
def padP (d : List Nat) : List Nat := d ++ 128 :: List.replicate (padZ d.length) 0
def padD (d : List Nat) : List Nat := padP d ++ be8 (8 * d.length)
theorem padP_len (d : List Nat) : (padP d).length = d.length + 1 + padZ d.length := by simp [padP]; omega
theorem padD_len (d : List Nat) : (padD d).length = d.length + 9 + padZ d.length := by simp [padD, padP_len, be8]; omega
theorem padD_mod (d : List Nat) : (padD d).length % 64 = 0 := by rw [padD_len]; unfold padZ; omega
theorem be8_byte (v : Nat) : ∀ c ∈ be8 v, c < 256 := fun c hc => by
  simp only [be8, List.mem_cons, List.not_mem_nil, or_false] at hc
  rcases hc with rfl | rfl | rfl | rfl | rfl | rfl | rfl | rfl <;> exact Nat.mod_lt _ (by omega)
theorem padD_byte {d : List Nat} (h : ∀ c ∈ d, c < 256) : ∀ c ∈ padD d, c < 256 := fun c hc => by
  simp only [padD, padP, List.mem_append, List.mem_cons, List.mem_replicate] at hc
  rcases hc with (hc | rfl | ⟨_, rfl⟩) | hc
  · exact h c hc
  · omega
  · omega
  · exact be8_byte _ c hc
/-- The last i of eight bytes are written. -/
def lastN (v i : Nat) : List Nat := List.replicate (8 - i) 0 ++ (be8 v).drop (8 - i)
theorem lastN_set (v : Nat) {i : Nat} (h : i < 8) : (lastN v i).set (7 - i) (v / 2 ^ (8 * i) % 256) = lastN v (i + 1) := by
  have : i = 0 ∨ i = 1 ∨ i = 2 ∨ i = 3 ∨ i = 4 ∨ i = 5 ∨ i = 6 ∨ i = 7 := by omega
  rcases this with rfl | rfl | rfl | rfl | rfl | rfl | rfl | rfl <;> rfl
theorem lastN_len (v : Nat) {i : Nat} (h : i ≤ 8) : (lastN v i).length = 8 := by
  simp [lastN, be8] <;> omega
theorem B_set (l : List Nat) (i c : Nat) : (B l).set i (.int .u8 (c : Int)) = B (l.set i c) := by simp [B, List.map_set]
theorem B_one (l : List Nat) : (B l).all oneC = true := by simp [B, oneC, Value.oneCell']
theorem rep_B (n : Nat) : rep n [.int .u8 0] = B (List.replicate n 0) := by
  induction n with
  | zero => rfl
  | succ n ih => rw [rep, ih]; rfl
theorem bld3s {H : Heap} {x y z : Value} (hx : Eng.oneC x = true ∧ x.cells = #[x]) (hy : Eng.oneC y = true ∧ y.cells = #[y]) (hz : Eng.oneC z = true ∧ z.cells = #[z]) :
    bldS 1 3 [nilS] [(0, 1, x), (1, 1, y), (2, 1, z)] H = some (.slice (some ⟨H.n, 0, none⟩) 3 3, H.push ⟨[x, y, z], 1, true⟩) := by
  have h1 : ([x, y, z] : List Value).all Value.oneCell' = true := by
    have a := hx.1; have b := hy.1; have c := hz.1
    simp only [Eng.oneC] at a b c
    simp [a, b, c]
  simp [bldS, rep, fillC, splice, hx.2, hy.2, hz.2, newS]
  simpa using h1
section
variable {K : Heap} {d : List Nat} {N : Nat} (hN : N = (padD d).length) (hd : d.length ≤ 1000000000)
include hN hd
theorem pad_loop : ∀ (k i : Nat), i + k = 8 →
    Ev (fun n m => f20_L0 real (AC n) n m (.slice (some ⟨K.n, 0, some 0⟩) N N) (.int .u64 ((8 * d.length : Nat) : Int)) (.int .i64 (i : Int)) (K.push ⟨B (padP d ++ lastN (8 * d.length) i), 1, true⟩))
      (.slice (some ⟨K.n, 0, some 0⟩) N N, K.push ⟨B (padD d), 1, true⟩) := by
  have hM : N = (padP d).length + 8 := by rw [hN, padD]; simp [be8]
  have hbig : (padP d).length ≤ 1000000100 := by rw [padP_len]; unfold padZ; omega
  intro k
  induction k with
  | zero =>
    intro i hi
    obtain rfl : i = 8 := by omega
    refine Ev.step (fun n m => f20_L0.eq_2 _ _ _ _ _ _ _ _) ?_
    have e : (((8 : Nat) : Int) < 8) = False := by simp
    have hf : padP d ++ lastN (8 * d.length) 8 = padD d := by simp [padD, lastN]
    rw [hf]
    simp only [ruA, ruB, ruC, ruE, ruD, lenStr, Int.reduceBEq, Int.reduceBNe, e]
    exact Ev.pure _
  | succ k ih =>
    intro i hi
    refine Ev.step (fun n m => f20_L0.eq_2 _ _ _ _ _ _ _ _) ?_
    have e : ((i : Int) < 8) = True := by simp; omega
    have e1 : lenS (.slice (some ⟨K.n, 0, some 0⟩) N N) = some (.int .i64 (N : Int)) := rfl
    have w1 : IntKind.i64.wrap ((N : Int) - 1) = ((N - 1 : Nat) : Int) := by rw [wrap_i64 (by omega) (by omega)]; omega
    have w2 : IntKind.i64.wrap (((N - 1 : Nat) : Int) - (i : Int)) = ((N - 1 - i : Nat) : Int) := by rw [wrap_i64 (by omega) (by omega)]; omega
    have w3 : binB Try.prog .mul 3 (.int .i64 8) (.int .i64 (i : Int)) = some (.int .i64 ((8 * i : Nat) : Int)) := by
      rw [b_mul, wrap_i64 (by omega) (by omega)]; simp
    have w4 : ∀ {H : Heap}, cvI .u8 (.int .u64 ((8 * d.length / 2 ^ (8 * i) : Nat) : Int)) H = some (.int .u8 ((8 * d.length / 2 ^ (8 * i) % 256 : Nat) : Int), H) := fun {H} => by
      rw [cvI_u8]; rfl
    have a1 : iAddrS 1 (.slice (some ⟨K.n, 0, some 0⟩) N N) (.int .i64 ((N - 1 - i : Nat) : Int)) = some (ptr K.n (N - 1 - i)) := by
      simp only [iAddrS]
      rw [if_pos (by omega)]
      simp
    have hset : (padP d ++ lastN (8 * d.length) i).set (N - 1 - i) (8 * d.length / 2 ^ (8 * i) % 256) = padP d ++ lastN (8 * d.length) (i + 1) := by
      rw [List.set_append_right (h := by omega), show N - 1 - i - (padP d).length = 7 - i by omega, lastN_set _ (by omega)]
    have s1 : stV 1 (ptr K.n (N - 1 - i)) (.int .u8 ((8 * d.length / 2 ^ (8 * i) % 256 : Nat) : Int)) (K.push ⟨B (padP d ++ lastN (8 * d.length) i), 1, true⟩) = some (undef, K.push ⟨B (padP d ++ lastN (8 * d.length) (i + 1)), 1, true⟩) := by
      rw [st1_push (by rw [B_length, List.length_append, lastN_len _ (by omega)]; omega) rfl rfl, B_set, hset]
    simp only [ruA, ruB, ruC, ruE, ruD, lenStr, Int.reduceBEq, Int.reduceBNe, e, e1, w1, w2, w3, u64_shr (show 8 * i < 64 by omega), w4, a1, s1, idx_up (show i < 9223372036854775807 by omega)]
    exact ih (i + 1) (by omega)
end
theorem pad_ok {H : Heap} {d : List Nat} {v : Value} (hs : Sl (all H) H 1 v d.length (B d)) (hd : d.length ≤ 1000000000) :
    ∃ H' X, Cl 20 [v] H (.slice (some ⟨X, 0, some 0⟩) (padD d).length (padD d).length) H' ∧ Keep (all H) H H' ∧ H.n ≤ X ∧ X < H'.n ∧ H'.get X = some ⟨B (padD d), 1, true⟩ := by
  obtain ⟨z, hz⟩ : ∃ z, padZ d.length = z := ⟨_, rfl⟩
  have hz64 : z < 64 := by rw [← hz]; exact Nat.mod_lt _ (by omega)
  obtain ⟨H1, hH1⟩ : ∃ H1, H.push ⟨B [128], 1, true⟩ = H1 := ⟨_, rfl⟩
  obtain ⟨H2, hH2⟩ : ∃ H2, H1.push ⟨B (List.replicate (z + 8) 0), 1, true⟩ = H2 := ⟨_, rfl⟩
  have n1 : H1.n = H.n + 1 := by rw [← hH1]; rfl
  have n2 : H2.n = H.n + 2 := by rw [← hH2]; simp [push_n, n1]
  have k1 : Keep (all H) H H1 := by rw [← hH1]; exact push_keep
  have k2 : Keep (all H1) H1 H2 := by rw [← hH2]; exact push_keep
  have v1 : Sl (all H1) H1 1 (.slice (some ⟨H.n, 0, none⟩) 1 1) ([128] : List Nat).length (B [128]) := by
    rw [← hH1]; exact push_Sl (d := [128]) (by simp [all, push_n])
  have v2 : Sl (all H2) H2 1 (.slice (some ⟨H1.n, 0, none⟩) (z + 8) (z + 8)) (List.replicate (z + 8) 0).length (B (List.replicate (z + 8) 0)) := by
    have := push_Sl (R := all H2) (H := H1) (d := List.replicate (z + 8) 0) (by simp [all, n1, n2])
    rw [hH2] at this
    simpa using this
  have v0 : Sl (all H2) H2 1 v d.length (B d) := (hs.keep (k1.trans (k2.mono (upA k1)))).mono (upA (k1.trans (k2.mono (upA k1))))
  have v1' : Sl (all H2) H2 1 (.slice (some ⟨H.n, 0, none⟩) 1 1) ([128] : List Nat).length (B [128]) := (v1.keep k2).mono (upA k2)
  obtain ⟨H3, hH3⟩ : ∃ H3, H2.push ⟨[v, .slice (some ⟨H.n, 0, none⟩) 1 1, .slice (some ⟨H1.n, 0, none⟩) (z + 8) (z + 8)], 1, true⟩ = H3 := ⟨_, rfl⟩
  have k3 : Keep (all H2) H2 H3 := by rw [← hH3]; exact push_keep
  have n3 : H3.n = H.n + 3 := by rw [← hH3]; simp [push_n, n2]
  have hx : Sl (all H3) H3 1 (.slice (some ⟨H2.n, 0, none⟩) 3 3) 3 [v, .slice (some ⟨H.n, 0, none⟩) 1 1, .slice (some ⟨H1.n, 0, none⟩) (z + 8) (z + 8)] := by
    refine .inr (.inr ⟨H2.n, 0, none, 3, _, rfl, by simp [all, n2, n3], by rw [← hH3]; exact push_self, by simp, by simp, by simp [cut]⟩)
  have hp : PS (all H3) H3 [v, .slice (some ⟨H.n, 0, none⟩) 1 1, .slice (some ⟨H1.n, 0, none⟩) (z + 8) (z + 8)] [d, [128], List.replicate (z + 8) 0] := by
    refine ⟨rfl, fun i e he => ?_⟩
    match i, he with
    | 0, he => obtain rfl := Option.some.inj he; exact ⟨_, rfl, (v0.keep k3).mono (upA k3)⟩
    | 1, he => obtain rfl := Option.some.inj he; exact ⟨_, rfl, (v1'.keep k3).mono (upA k3)⟩
    | 2, he => obtain rfl := Option.some.inj he; exact ⟨_, rfl, (v2.keep k3).mono (upA k3)⟩
  have hfl : ([d, [128], List.replicate (z + 8) 0] : List (List Nat)).flatten = padP d ++ lastN (8 * d.length) 0 := by
    simp only [List.flatten_cons, List.flatten_nil, List.append_nil, padP, lastN, hz]
    rw [← List.replicate_append_replicate]
    simp [be8]
  have hNl : ([d, [128], List.replicate (z + 8) 0] : List (List Nat)).flatten.length = (padD d).length := by
    rw [hfl, List.length_append, lastN_len _ (by omega), padD]; simp [be8]
  have hsm : (padD d).length ≤ 1000000000000 := by rw [padD_len, hz]; omega
  have cj := join_ok (H := H3) hx hp (by simp) hNl hsm (by simp)
  rw [hfl] at cj
  refine ⟨H3.push ⟨B (padD d), 1, true⟩, H3.n, ?_, (k1.trans ((k2.mono (upA k1)).trans ((k3.mono (upA (k1.trans (k2.mono (upA k1)))))))).trans (Keep.push fun b hb => by have : b < H.n := hb; omega), by omega, by simp [push_n], push_self⟩
  refine Ev.enter (fun n => f20_eq rfl n _ _) ?_
  have e1 : binB Try.prog .rem 3 (.int .i64 (d.length : Int)) (.int .i64 64) = some (.int .i64 ((d.length % 64 : Nat) : Int)) := by
    rw [b_rem (by decide), Int.tmod_eq_emod_of_nonneg (by omega)]; rfl
  have e2 : IntKind.i64.wrap (119 - ((d.length % 64 : Nat) : Int)) = ((119 - d.length % 64 : Nat) : Int) := by rw [wrap_i64 (by omega) (by omega)]; omega
  have e3 : binB Try.prog .rem 3 (.int .i64 ((119 - d.length % 64 : Nat) : Int)) (.int .i64 64) = some (.int .i64 (z : Int)) := by
    rw [b_rem (by decide), Int.tmod_eq_emod_of_nonneg (by omega), ← hz]; rfl
  have e4 : IntKind.i64.wrap ((z : Int) + 8) = ((z + 8 : Nat) : Int) := by rw [wrap_i64 (by omega) (by omega)]; omega
  have b1 : bldS 1 1 [.int .u8 0] [(0, 1, .int .u8 128)] H = some (.slice (some ⟨H.n, 0, none⟩) 1 1, H1) := by rw [bld1 rfl rfl, ← hH1]; rfl
  have b2 : mkS 1 1 [.int .u8 0] (.int .i64 ((z + 8 : Nat) : Int)) (.int .i64 ((z + 8 : Nat) : Int)) H1 = some (.slice (some ⟨H1.n, 0, none⟩) (z + 8) (z + 8), H2) := by
    simp only [mkS]
    have hm : mostBytes = 140737488355328 := rfl
    have ho := B_one (List.replicate (z + 8) 0)
    rw [if_pos ⟨by omega, by omega, by omega, rfl, by omega, by omega⟩]
    simp only [newS, Int.toNat_natCast, rep_B]
    rw [if_pos ho, ← hH2]
  have b3 : bldS 1 3 [nilS] [(0, 1, v), (1, 1, .slice (some ⟨H.n, 0, none⟩) 1 1), (2, 1, .slice (some ⟨H1.n, 0, none⟩) (z + 8) (z + 8))] H2 = some (.slice (some ⟨H2.n, 0, none⟩) 3 3, H3) := by
    rw [bld3s hs.oneC ⟨rfl, rfl⟩ ⟨rfl, rfl⟩, hH3]
  have e5 : ∀ {H : Heap}, cvI .u64 (.int .i64 (d.length : Int)) H = some (.int .u64 (d.length : Int), H) := cv_u64 (by omega)
  have e6 : binB Try.prog .mul 49 (.int .u64 (d.length : Int)) (.int .u64 8) = some (.int .u64 ((8 * d.length : Nat) : Int)) := by
    rw [b_mul, show ((d.length : Int) * 8) = ((8 * d.length : Nat) : Int) by omega, wrap_u64 (by omega)]
  simp only [f20, ruA, ruB, ruC, ruE, ruD, lenStr, Int.reduceBEq, Int.reduceBNe, hs.lenS, e1, e2, e3, b1, e4, b2, b3]
  refine Ev.callC cj ?_
  simp only [ruA, ruB, ruC, ruE, ruD, lenStr, Int.reduceBEq, Int.reduceBNe, e5, e6]
  exact Ev.loop (pad_loop (K := H3) (d := d) rfl hd 8 0 (by omega))
end Go.Eng
