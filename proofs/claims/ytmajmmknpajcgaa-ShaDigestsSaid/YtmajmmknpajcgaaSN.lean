/- Bytes' digest; the chapter's examples. -/
import Derived.Test.YtmajmmknpajcgaaSM
set_option linter.unusedVariables false
set_option linter.unusedSimpArgs false
set_option linter.unusedSectionVars false
set_option maxRecDepth 100000
namespace Go.Eng
open Go Go.Proofs

def h0 : S8 := ⟨0x6a09e667, 0xbb67ae85, 0x3c6ef372, 0xa54ff53a, 0x510e527f, 0x9b05688c, 0x1f83d9ab, 0x5be0cd19⟩
/-- What blocks make of eight words. -/
def blks : Nat → S8 → List Nat → S8
  | 0, s, _ => s
  | k + 1, s, d => blks k (blk s (d.take 64)) (d.drop 64)
def obyte (s : S8) (i : Nat) : Nat := (s.l.getD (i / 4) 0 >>> UInt32.ofNat (8 * (3 - i % 4))).toNat % 256
def outB (s : S8) : List Nat := (List.range 32).map (obyte s)
/-- Bytes' digest. -/
def shaD (d : List Nat) : List Nat := outB (blks ((padD d).length / 64) h0 (padD d))
theorem outB_len (s : S8) : (outB s).length = 32 := by simp [outB]
theorem outB_at (s : S8) {i : Nat} (h : i < 32) : (outB s)[i]? = some (obyte s i) := by simp [outB, h]
theorem outB_byte (s : S8) : ∀ c ∈ outB s, c < 256 := fun c hc => by
  simp only [outB, List.mem_map] at hc
  obtain ⟨i, _, rfl⟩ := hc
  exact Nat.mod_lt _ (by omega)
theorem begin_val : (Value.agg (sRow 8)) = .agg (WC h0.l).toArray := by rfl
theorem begin_cl (H : Heap) : Cl 23 [] H (.agg (WC h0.l).toArray) H := by
  refine ⟨1, fun n m hn _ => ?_⟩
  obtain ⟨n, rfl⟩ : ∃ k, n = k + 1 := ⟨n - 1, by omega⟩
  refine (acall_ext Try.func23 (by kernel_rfl) (by kernel_rfl) (g := begX) rfl n _ H).trans ?_
  rfl
theorem q4 {i : Nat} (h : i < 9223372036854775808) : binB Try.prog .quo 3 (.int .i64 (i : Int)) (.int .i64 4) = some (.int .i64 ((i / 4 : Nat) : Int)) := by
  rw [b_quo (by decide), Int.tdiv_eq_ediv_of_nonneg (by omega), wrap_i64 (by omega) (by omega)]; rfl
theorem r4 {i : Nat} : binB Try.prog .rem 3 (.int .i64 (i : Int)) (.int .i64 4) = some (.int .i64 ((i % 4 : Nat) : Int)) := by
  rw [b_rem (by decide), Int.tmod_eq_emod_of_nonneg (by omega)]; rfl
theorem cv8_iv {x : UInt32} {H : Heap} : cvI .u8 (iv x) H = some (.int .u8 ((x.toNat % 256 : Nat) : Int), H) := by
  unfold iv; rw [cvI_u8]; rfl
theorem mul8 {k : Nat} (h : k < 1000000000000) : binB Try.prog .mul 3 (.int .i64 8) (.int .i64 (k : Int)) = some (.int .i64 ((8 * k : Nat) : Int)) := by
  rw [b_mul, show ((8 : Int) * (k : Int)) = ((8 * k : Nat) : Int) by omega, wrap_i64 (by omega) (by omega)]
/-- The first i bytes are written. -/
def outI (s : S8) (i : Nat) : List Nat := (outB s).take i ++ List.replicate (32 - i) 0
theorem outI_len (s : S8) {i : Nat} (h : i ≤ 32) : (outI s i).length = 32 := by simp [outI, outB_len]; omega
theorem outI_set (s : S8) {i : Nat} (h : i < 32) : (outI s i).set i (obyte s i) = outI s (i + 1) := by
  have h1 : ((outB s).take i).length = i := by rw [List.length_take, outB_len]; omega
  obtain ⟨k, hk⟩ : ∃ k, 32 - i = k + 1 := ⟨31 - i, by omega⟩
  rw [outI, outI, List.set_append_right (h := by omega), h1, Nat.sub_self, hk, List.replicate_succ, List.set_cons_zero, show 32 - (i + 1) = k by omega, List.take_add_one, outB_at s h]
  simp
section
variable {b2 b3 : Nat} (hne : b2 ≠ b3) {s : S8}
include hne
theorem of_out : ∀ (k i : Nat) (H : Heap), i + k = 32 → H.get b3 = some ⟨WC s.l, 1, true⟩ → H.get b2 = some ⟨B (outI s i), 1, true⟩ →
    ∃ H', Ev (fun n m => f18_L1 real (AC n) n m (ptr b2 0) (ptr b3 0) (.int .i64 (i : Int)) H) (.agg (B (outB s)).toArray, H') ∧ Keep (fun b => b ≠ b2) H H' := by
  intro k
  induction k with
  | zero =>
    intro i H hi h3 h2
    obtain rfl : i = 32 := by omega
    have hf : outI s 32 = outB s := by rw [outI, ← outB_len s, List.take_length]; simp
    rw [hf] at h2
    have hl : (B (outB s)).length = 32 := by rw [B_length, outB_len]
    refine ⟨H.upd b2 (some ⟨B (outB s), 1, true⟩), ?_, Keep.upd (fun h => h rfl)⟩
    refine Ev.step (fun n m => f18_L1.eq_2 _ _ _ _ _ _ _ m) ?_
    have e : (((32 : Nat) : Int) < 32) = False := by simp
    simp only [ruA, ruB, ruC, ruE, ruD, lenStr, Int.reduceBEq, Int.reduceBNe, e, ldAG h2 hl, stG h2 hl hl (B_one _), ldAG (H := H.upd b2 (some ⟨B (outB s), 1, true⟩)) upd_self hl, Option.map_some, resM1, one1]
    exact Ev.pure _
  | succ k ih =>
    intro i H hi h3 h2
    have h2' : (H.upd b2 (some ⟨B (outI s (i + 1)), 1, true⟩)).get b2 = some ⟨B (outI s (i + 1)), 1, true⟩ := upd_self
    have h3' : (H.upd b2 (some ⟨B (outI s (i + 1)), 1, true⟩)).get b3 = some ⟨WC s.l, 1, true⟩ := by rw [upd_ne (Ne.symm hne)]; exact h3
    obtain ⟨H', c1, k1⟩ := ih (i + 1) _ (by omega) h3' h2'
    refine ⟨H', ?_, (Keep.upd (fun h => h rfl)).trans k1⟩
    refine Ev.step (fun n m => f18_L1.eq_2 _ _ _ _ _ _ _ m) ?_
    have e : ((i : Int) < 32) = True := by simp; omega
    have hx : s.l[i / 4]? = some (s.l.getD (i / 4) 0) := by
      rw [List.getD_eq_getElem?_getD, List.getElem?_eq_getElem (by show i / 4 < 8; omega)]; rfl
    have e3 : IntKind.i64.wrap (3 - ((i % 4 : Nat) : Int)) = ((3 - i % 4 : Nat) : Int) := by rw [wrap_i64 (by omega) (by omega)]; omega
    have st : stV 1 (ptr b2 i) (.int .u8 ((obyte s i : Nat) : Int)) H = some (undef, H.upd b2 (some ⟨B (outI s (i + 1)), 1, true⟩)) := by
      rw [stV1_box h2 (by rw [B_length, outI_len s (by omega)]; omega) rfl rfl, B_set, outI_set s (by omega)]
    unfold obyte at st
    simp only [ruA, ruB, ruC, ruE, ruD, lenStr, Int.reduceBEq, Int.reduceBNe, e, q4 (show i < 9223372036854775808 by omega), iA (show i / 4 < 8 by omega), ldG h3 (WC_at hx), r4, e3, mul8 (show 3 - i % 4 < 1000000000000 by omega), w_shr (show 8 * (3 - i % 4) < 32 by omega), cv8_iv, iA (show i < 32 by omega), st, idx_up (show i < 9223372036854775807 by omega)]
    exact c1
theorem of_loop : ∀ (k : Nat) (s : S8) (r : List Nat) (p : Value) (H : Heap), r.length = 64 * k → (∀ c ∈ r, c < 256) → r.length ≤ 1000000000000 → Sl (But H b3) H 1 p r.length (B r) → H.get b3 = some ⟨WC s.l, 1, true⟩ → H.get b2 = some ⟨B (List.replicate 32 0), 1, true⟩ → b2 < H.n → b3 < H.n →
    ∃ H', Ev (fun n m => f18_L0 real (AC n) n m (ptr b2 0) (ptr b3 0) p H) (.agg (B (outB (blks k s r))).toArray, H') ∧ Keep (fun b => b < H.n ∧ b ≠ b2 ∧ b ≠ b3) H H' := by
  intro k
  induction k with
  | zero =>
    intro s r p H hr _ _ hs h3 h2 hb2 hb3
    obtain rfl : r = [] := List.eq_nil_of_length_eq_zero (by omega)
    have hz : outI s 0 = List.replicate 32 0 := by simp [outI]
    obtain ⟨H', c1, k1⟩ := of_out hne (s := s) 32 0 H (by omega) h3 (by rw [hz]; exact h2)
    refine ⟨H', ?_, k1.mono fun b hb => hb.2.1⟩
    refine Ev.step (fun n m => f18_L0.eq_2 _ _ _ _ _ _ _ m) ?_
    have e : ((([] : List Nat).length : Int) > 0) = False := by simp
    simp only [ruA, ruB, ruC, ruE, ruD, lenStr, Int.reduceBEq, Int.reduceBNe, hs.lenS, e]
    exact Ev.loop c1
  | succ k ih =>
    intro s r p H hr hb hbig hs h3 h2 hb2 hb3
    obtain ⟨p1, q1, q2⟩ := By.upto hs (i := 64) (by omega)
    obtain ⟨p2, q3, q5⟩ := By.from hs (k := .i64) (i := 64) (by omega)
    have ht : (r.take 64).length = 64 := by rw [List.length_take]; omega
    obtain ⟨H1, c1, k1⟩ := block_ok s ht (fun c hc => hb c (List.mem_of_mem_take hc)) (q2.mono (all_but H b3))
    have g3 : H1.get b3 = some ⟨WC s.l, 1, true⟩ := by rw [k1.2 _ hb3]; exact h3
    have g2 : H1.get b2 = some ⟨B (List.replicate 32 0), 1, true⟩ := by rw [k1.2 _ hb2]; exact h2
    obtain ⟨H2, hH2⟩ : ∃ H2, H1.upd b3 (some ⟨WC (blk s (r.take 64)).l, 1, true⟩) = H2 := ⟨_, rfl⟩
    have n2 : H2.n = H1.n := by rw [← hH2]; rfl
    have kk : Keep (But H b3) H H2 := by
      rw [← hH2]
      exact (k1.mono (all_but H b3)).trans (Keep.upd fun h => h.2 rfl)
    have f3 : H2.get b3 = some ⟨WC (blk s (r.take 64)).l, 1, true⟩ := by rw [← hH2]; exact upd_self
    have f2 : H2.get b2 = some ⟨B (List.replicate 32 0), 1, true⟩ := by rw [← hH2, upd_ne hne]; exact g2
    have hsl : Sl (But H2 b3) H2 1 p2 (r.drop 64).length (B (r.drop 64)) := (q5.keep kk).mono (but_up kk.1)
    obtain ⟨H3, c3, k3⟩ := ih (blk s (r.take 64)) (r.drop 64) p2 H2 (by rw [List.length_drop]; omega) (fun c hc => hb c (List.mem_of_mem_drop hc)) (by rw [List.length_drop]; omega) hsl f3 f2 (Nat.lt_of_lt_of_le hb2 kk.1) (Nat.lt_of_lt_of_le hb3 kk.1)
    refine ⟨H3, ?_, (kk.mono fun b h => ⟨h.1, h.2.2⟩).trans (k3.mono fun b h => ⟨Nat.lt_of_lt_of_le h.1 kk.1, h.2⟩)⟩
    refine Ev.step (fun n m => f18_L0.eq_2 _ _ _ _ _ _ _ m) ?_
    have e : ((r.length : Int) > 0) = True := by simp; omega
    have q1' : slcS 1 p none (some (.int .i64 64)) none = some p1 := q1
    have q3' : slcS 1 p (some (.int .i64 64)) none none = some p2 := q3
    simp only [ruA, ruB, ruC, ruE, ruD, lenStr, Int.reduceBEq, Int.reduceBNe, hs.lenS, e, ldAG h3 (WC8 s), q1', q3']
    refine Ev.callC c1 ?_
    simp only [ruA, ruB, ruC, ruE, ruD, lenStr, Int.reduceBEq, Int.reduceBNe, stG g3 (WC8 s) (WC8 _) (WC_one _), hH2]
    exact c3
end
theorem of_ok {H : Heap} {d : List Nat} {v : Value} (hs : Sl (all H) H 1 v d.length (B d)) (hb : ∀ c ∈ d, c < 256) (hd : d.length ≤ 1000000000) :
    ∃ H', Cl 18 [v] H (.agg (B (shaD d)).toArray) H' ∧ Keep (all H) H H' := by
  obtain ⟨H1, hH1⟩ : ∃ H1, H.push ⟨B (List.replicate 32 0), 1, true⟩ = H1 := ⟨_, rfl⟩
  obtain ⟨H2, hH2⟩ : ∃ H2, H1.push ⟨WC h0.l, 1, true⟩ = H2 := ⟨_, rfl⟩
  have n1 : H1.n = H.n + 1 := by rw [← hH1]; rfl
  have n2 : H2.n = H.n + 2 := by rw [← hH2, push_n, n1]
  have k1 : Keep (all H) H H1 := by rw [← hH1]; exact push_keep
  have k2 : Keep (all H) H H2 := by rw [← hH2]; exact k1.trans (Keep.push fun b hb => by have : b < H.n := hb; omega)
  obtain ⟨H3, X, c3, k3, x1, x2, x3⟩ := pad_ok ((hs.keep k2).mono (upA k2)) hd
  have g2 : H3.get H.n = some ⟨B (List.replicate 32 0), 1, true⟩ := by
    rw [k3.2 _ (show H.n < H2.n by omega), ← hH2, push_lt (by omega), ← hH1]; exact push_self
  have g3 : H3.get H1.n = some ⟨WC h0.l, 1, true⟩ := by
    rw [k3.2 _ (show H1.n < H2.n by omega), ← hH2]; exact push_self
  have hn3 := k3.1
  have hsl : Sl (But H3 H1.n) H3 1 (.slice (some ⟨X, 0, some 0⟩) (padD d).length (padD d).length) (padD d).length (B (padD d)) :=
    .inr (.inr ⟨X, 0, some 0, _, _, rfl, ⟨x2, by omega⟩, x3, by simp [B_length], by simp, by rw [cut, List.drop_zero, Nat.mul_one, ← B_length (padD d), List.take_length]⟩)
  have hm := padD_mod d
  have hl := padD_len d
  have hz : padZ d.length < 64 := Nat.mod_lt _ (by omega)
  obtain ⟨H4, c4, k4⟩ := of_loop (b2 := H.n) (b3 := H1.n) (by omega) ((padD d).length / 64) h0 (padD d) _ H3 (by omega) (padD_byte hb) (by omega) hsl g3 g2 (by omega) (by omega)
  refine ⟨H4, ?_, (k2.trans (k3.mono (upA k2))).trans (k4.mono fun b hb => by have : b < H.n := hb; exact ⟨by omega, by omega, by omega⟩)⟩
  refine Ev.enter (fun n => f18_eq rfl n _ _) ?_
  simp only [f18, ruA, rep_B, newV_box (B_one _), hH1]
  refine Ev.callC (begin_cl _) ?_
  rw [zero8]
  simp only [ruA, newV_box (WC_one _)]
  rw [stA_push (by rfl) (WC8 _) (WC_one _), hH2]
  simp only [ruA]
  refine Ev.callC c3 ?_
  exact Ev.loop c4
/-! ### the chapter's examples -/
theorem w_eq {P : Program} {t : TypeId} {x y : UInt32} : binB P .eql t (iv x) (iv y) = some (.bool (x == y)) := by
  unfold iv
  rw [b_eql]
  congr 2
  by_cases h : x = y
  · subst h; simp
  · have : x.toNat ≠ y.toNat := fun e => h (UInt32.toNat_inj.1 e)
    have h2 : ((x.toNat : Int) == (y.toNat : Int)) = false := by simp; omega
    rw [h2]; simp [h]
theorem rootB_ok {p n : Nat} (hp : p = 2 ∨ p = 3) (h1 : 1 ≤ n) (hn : n ≤ 1000) (w : UInt32) (H : Heap) : Cl 24 [.int .i64 (p : Int), .int .i64 (n : Int), iv w] H (.bool (rootW p n == w)) H := by
  refine Ev.enter (fun n => f24_eq rfl n _ _ _ _) ?_
  have hr := root_ok (p : Int) (n : Int) H
  have e : rootN (p : Int) (n : Int) = (iv (rootW p n), .int .i64 0) := by unfold rootN; rw [if_pos (by omega)]; simp
  rw [e] at hr
  simp only [f24, ruA]
  refine Ev.callC hr ?_
  cases hc : rootW p n == w
  · simp only [ruA, ruB, ruC, ruE, ruD, lenStr, Int.reduceBEq, Int.reduceBNe, w_eq, hc]
    exact Ev.pure _
  · simp only [ruA, ruB, ruC, ruE, ruD, lenStr, Int.reduceBEq, Int.reduceBNe, w_eq, hc]
    exact Ev.pure _
theorem U_ofNat {l : List Nat} (h : ∀ c ∈ l, c < 256) : U (l.map UInt8.ofNat) = l := by
  unfold U
  rw [List.map_map]
  conv => rhs; rw [← List.map_id l]
  exact List.map_congr_left fun c hc => by simp [UInt8.toNat_ofNat, Nat.mod_eq_of_lt (h c hc)]
/-- A digest's digits, of numbers. -/
def hexN (l : List Nat) : List UInt8 := hexL (l.map UInt8.ofNat)
theorem hexN_cl {l : List Nat} (h : ∀ c ∈ l, c < 256) (hl : l.length = 32) (H : Heap) : Cl 27 [.agg (B l).toArray] H (.string (bs (hexN l))) H := by
  have := hex_cl (ds := l.map UInt8.ofNat) (by rw [List.length_map]; exact hl) (H := H)
  rw [U_ofNat h] at this
  exact this
theorem w22 : rootW 2 2 = 0x6a09e667 := by kernel_rfl
theorem w32 : rootW 3 2 = 0x428a2f98 := by kernel_rfl
theorem w24 : rootW 2 4 = 0 := by kernel_rfl
def dg0 : List UInt8 := [101, 51, 98, 48, 99, 52, 52, 50, 57, 56, 102, 99, 49, 99, 49, 52, 57, 97, 102, 98, 102, 52, 99, 56, 57, 57, 54, 102, 98, 57, 50, 52, 50, 55, 97, 101, 52, 49, 101, 52, 54, 52, 57, 98, 57, 51, 52, 99, 97, 52, 57, 53, 57, 57, 49, 98, 55, 56, 53, 50, 98, 56, 53, 53]
def dg3 : List UInt8 := [98, 97, 55, 56, 49, 54, 98, 102, 56, 102, 48, 49, 99, 102, 101, 97, 52, 49, 52, 49, 52, 48, 100, 101, 53, 100, 97, 101, 50, 50, 50, 51, 98, 48, 48, 51, 54, 49, 97, 51, 57, 54, 49, 55, 55, 97, 57, 99, 98, 52, 49, 48, 102, 102, 54, 49, 102, 50, 48, 48, 49, 53, 97, 100]
theorem sha0 : hexN (shaD []) = dg0 := by kernel_rfl
theorem sha3 : hexN (shaD [97, 98, 99]) = dg3 := by kernel_rfl
end Go.Eng
