import Derived.Test.YtmajmmknpajcgaaSG
import Derived.KernelRfl
/- Turns of words; the round constants; the 64 words of a block. -/
set_option linter.unusedVariables false
set_option linter.unusedSimpArgs false
set_option linter.unusedSectionVars false
set_option maxRecDepth 100000
namespace Go.Eng
open Go Go.Proofs

def rotr (x : UInt32) (n : Nat) : UInt32 := x <<< UInt32.ofNat (32 - n) ||| x >>> UInt32.ofNat n
section
variable {P : Program} {t : TypeId} {x : UInt32} {k n : Nat} {kk : IntKind} {H : Heap}
theorem w_shl (hk : k < 32) : binB P .shl t (iv x) (.int kk (k : Int)) = some (iv (x <<< UInt32.ofNat k)) := by
  have e : (min (k : Int).toNat IntKind.u32.bits) = k := by simp only [Int.toNat_natCast]; exact Nat.min_eq_left (by show k ≤ 32; omega)
  have e2 : (x <<< UInt32.ofNat k).toNat = x.toNat * 2 ^ k % 4294967296 := by
    rw [UInt32.toNat_shiftLeft, UInt32.toNat_ofNat', Nat.mod_eq_of_lt (show k < 2 ^ 32 by omega), Nat.mod_eq_of_lt hk, Nat.shiftLeft_eq]
  unfold iv
  simp only [binB, shiftB]
  rw [if_neg (by omega), e, e2, IntKind.wrap_u32, show ((x.toNat : Int) * 2 ^ k) = ((x.toNat * 2 ^ k : Nat) : Int) by simp]
  rfl
theorem w_shr (hk : k < 32) : binB P .shr t (iv x) (.int kk (k : Int)) = some (iv (x >>> UInt32.ofNat k)) := by
  have e : (min (k : Int).toNat IntKind.u32.bits) = k := by simp only [Int.toNat_natCast]; exact Nat.min_eq_left (by show k ≤ 32; omega)
  have e2 : (x >>> UInt32.ofNat k).toNat = x.toNat / 2 ^ k := by
    rw [UInt32.toNat_shiftRight, UInt32.toNat_ofNat', Nat.mod_eq_of_lt (show k < 2 ^ 32 by omega), Nat.mod_eq_of_lt hk, Nat.shiftRight_eq_div_pow]
  unfold iv
  rw [b_shr (by omega), e, e2]
  congr 2
  rw [Int.fdiv_eq_ediv_of_nonneg _ (by exact Int.pow_nonneg (by omega)), show ((2 : Int) ^ k) = ((2 ^ k : Nat) : Int) by simp]
  rfl
theorem turn_ok (h0 : 0 < n) (hn : n < 32) : Cl 35 [iv x, .int .i64 (n : Int)] H (iv (rotr x n)) H := by
  refine Ev.enter (fun n => f35_eq rfl n _ _ _) ?_
  have e1 : unB .neg (.int .i64 (n : Int)) = some (.int .i64 (-(n : Int))) := by
    simp only [unB]; rw [wrap_i64 (by omega) (by omega)]; simp
  simp only [f35, ruA, ruB, ruC, ruE, ruD, lenStr, Int.reduceBEq, Int.reduceBNe, e1]
  have h50 : Cl 50 [iv x, .int .i64 (-(n : Int))] H (iv (rotr x n)) H := by
    refine Ev.enter (fun n => f50_eq rfl n _ _ _) ?_
    have e2 : ∀ {H : Heap}, cvI .u64 (.int .i64 (-(n : Int))) H = some (.int .u64 ((18446744073709551616 - n : Nat) : Int), H) := fun {H} => by
      simp only [cvI, IntKind.wrap_u64]
      congr 3
      omega
    have e3 : binB Try.prog .and 67 (.int .u64 ((18446744073709551616 - n : Nat) : Int)) (.int .u64 31) = some (.int .u64 ((32 - n : Nat) : Int)) := by
      rw [b_and]
      have h1 : (BitVec.ofInt IntKind.u64.bits ((18446744073709551616 - n : Nat) : Int) &&& BitVec.ofInt IntKind.u64.bits 31).toNat = 32 - n := by
        rw [BitVec.toNat_and]
        show (BitVec.ofInt 64 ((18446744073709551616 - n : Nat) : Int)).toNat &&& (BitVec.ofInt 64 ((31 : Nat) : Int)).toNat = _
        rw [bv64 (by omega), bv64 (by omega), show (31 : Nat) = 2 ^ 5 - 1 from rfl, Nat.and_two_pow_sub_one_eq_mod]
        omega
      rw [h1, wrap_u64 (by omega)]
    have e4 : binB Try.prog .sub 67 (.int .u64 32) (.int .u64 ((32 - n : Nat) : Int)) = some (.int .u64 (n : Int)) := by
      rw [b_sub, show ((32 : Int) - ((32 - n : Nat) : Int)) = (n : Int) by omega, wrap_u64 (by omega)]
    simp only [f50, ruA, ruB, e2, e3, e4, w_shl (show 32 - n < 32 by omega), w_shr hn, w_or, rotr]
    exact Ev.pure _
  refine Ev.callC h50 ?_
  exact Ev.pure _
end

/-! ### boxes of words -/
theorem WC_len (l : List UInt32) : (WC l).length = l.length := by simp [WC]
theorem WC_at {l : List UInt32} {i : Nat} {x : UInt32} (h : l[i]? = some x) : (WC l)[i]? = some (iv x) := by simp [WC, h]
theorem WC_one (l : List UInt32) : (WC l).all oneC = true := by simp [WC, iv, oneC, Value.oneCell']
theorem WC_set (l : List UInt32) (i : Nat) (x : UInt32) : (WC l).set i (iv x) = WC (l.set i x) := by simp [WC, List.map_set]
theorem iv_one {x : UInt32} : oneC (iv x) = true := rfl
theorem iv_cells {x : UInt32} : (iv x).cells = #[iv x] := rfl
theorem iA {len b i : Nat} (h : i < len) {k : IntKind} : iAddrA len 1 (ptr b 0) (.int k (i : Int)) = some (ptr b i) := by
  simp only [iAddrA]
  rw [if_pos (by omega)]
  simp
theorem ldG {H : Heap} {b k sz : Nat} {ow : Bool} {cs : List Value} {v : Value} (h : H.get b = some ⟨cs, sz, ow⟩) (hv : cs[k]? = some v) : ldC (ptr b k) H = some (v, H) := by
  simp only [ldC, h, hv]
theorem same_refl {H : Heap} {b : Option Nat} : sameBlk H H b = true := sameBlk_refl
theorem rep_WC (n : Nat) : rep n [.int .u32 0] = WC (List.replicate n 0) := by
  induction n with
  | zero => rfl
  | succ n ih => rw [rep, ih]; rfl

/-! ### the round constants -/
def KK : List UInt32 := [0x428a2f98, 0x71374491, 0xb5c0fbcf, 0xe9b5dba5, 0x3956c25b, 0x59f111f1, 0x923f82a4, 0xab1c5ed5, 0xd807aa98, 0x12835b01, 0x243185be, 0x550c7dc3, 0x72be5d74, 0x80deb1fe, 0x9bdc06a7, 0xc19bf174,
  0xe49b69c1, 0xefbe4786, 0x0fc19dc6, 0x240ca1cc, 0x2de92c6f, 0x4a7484aa, 0x5cb0a9dc, 0x76f988da, 0x983e5152, 0xa831c66d, 0xb00327c8, 0xbf597fc7, 0xc6e00bf3, 0xd5a79147, 0x06ca6351, 0x14292967,
  0x27b70a85, 0x2e1b2138, 0x4d2c6dfc, 0x53380d13, 0x650a7354, 0x766a0abb, 0x81c2c92e, 0x92722c85, 0xa2bfe8a1, 0xa81a664b, 0xc24b8b70, 0xc76c51a3, 0xd192e819, 0xd6990624, 0xf40e3585, 0x106aa070,
  0x19a4c116, 0x1e376c08, 0x2748774c, 0x34b0bcb5, 0x391c0cb3, 0x4ed8aa4a, 0x5b9cca4f, 0x682e6ff3, 0x748f82ee, 0x78a5636f, 0x84c87814, 0x8cc70208, 0x90befffa, 0xa4506ceb, 0xbef9a3f7, 0xc67178f2]
abbrev keyPl : List (Nat × Nat × Value) := [(0, 1, (.int .u32 1116352408)), (1, 1, (.int .u32 1899447441)), (2, 1, (.int .u32 3049323471)), (3, 1, (.int .u32 3921009573)), (4, 1, (.int .u32 961987163)), (5, 1, (.int .u32 1508970993)), (6, 1, (.int .u32 2453635748)), (7, 1, (.int .u32 2870763221)), (8, 1, (.int .u32 3624381080)), (9, 1, (.int .u32 310598401)), (10, 1, (.int .u32 607225278)), (11, 1, (.int .u32 1426881987)), (12, 1, (.int .u32 1925078388)), (13, 1, (.int .u32 2162078206)), (14, 1, (.int .u32 2614888103)), (15, 1, (.int .u32 3248222580)), (16, 1, (.int .u32 3835390401)), (17, 1, (.int .u32 4022224774)), (18, 1, (.int .u32 264347078)), (19, 1, (.int .u32 604807628)), (20, 1, (.int .u32 770255983)), (21, 1, (.int .u32 1249150122)), (22, 1, (.int .u32 1555081692)), (23, 1, (.int .u32 1996064986)), (24, 1, (.int .u32 2554220882)), (25, 1, (.int .u32 2821834349)), (26, 1, (.int .u32 2952996808)), (27, 1, (.int .u32 3210313671)), (28, 1, (.int .u32 3336571891)), (29, 1, (.int .u32 3584528711)), (30, 1, (.int .u32 113926993)), (31, 1, (.int .u32 338241895)), (32, 1, (.int .u32 666307205)), (33, 1, (.int .u32 773529912)), (34, 1, (.int .u32 1294757372)), (35, 1, (.int .u32 1396182291)), (36, 1, (.int .u32 1695183700)), (37, 1, (.int .u32 1986661051)), (38, 1, (.int .u32 2177026350)), (39, 1, (.int .u32 2456956037)), (40, 1, (.int .u32 2730485921)), (41, 1, (.int .u32 2820302411)), (42, 1, (.int .u32 3259730800)), (43, 1, (.int .u32 3345764771)), (44, 1, (.int .u32 3516065817)), (45, 1, (.int .u32 3600352804)), (46, 1, (.int .u32 4094571909)), (47, 1, (.int .u32 275423344)), (48, 1, (.int .u32 430227734)), (49, 1, (.int .u32 506948616)), (50, 1, (.int .u32 659060556)), (51, 1, (.int .u32 883997877)), (52, 1, (.int .u32 958139571)), (53, 1, (.int .u32 1322822218)), (54, 1, (.int .u32 1537002063)), (55, 1, (.int .u32 1747873779)), (56, 1, (.int .u32 1955562222)), (57, 1, (.int .u32 2024104815)), (58, 1, (.int .u32 2227730452)), (59, 1, (.int .u32 2361852424)), (60, 1, (.int .u32 2428436474)), (61, 1, (.int .u32 2756734187)), (62, 1, (.int .u32 3204031479)), (63, 1, (.int .u32 3329325298))]
theorem keys_ok (H : Heap) : ∃ H', Cl 33 [] H (.agg (WC KK).toArray) H' ∧ Keep (all H) H H' := by
  refine ⟨H.push ⟨WC KK, 1, true⟩, ?_, push_keep⟩
  refine Ev.enter (fun n => f33_eq rfl n _) ?_
  have hz : (rep 64 [Value.int .u32 0]).all oneC = true := by rw [rep_WC]; exact WC_one _
  unfold f33
  simp only [ruA, newV_box hz]
  have hb : ∀ H : Heap, (bld (rep 64 [Value.int .u32 0]) keyPl H) = some (.agg (WC KK).toArray, H) := fun H => by
    have : fillC (rep 64 [Value.int .u32 0]) keyPl = some (WC KK) := by kernel_rfl
    unfold bld
    rw [this]
  rw [hb]
  simp only [ruA]
  rw [stA_push (by rw [rep_len]) (by rw [WC_len]; rfl) (WC_one _)]
  simp only [ruA]
  rw [ldA_push (by rw [WC_len]; rfl)]
  exact Ev.pure _
end Go.Eng

/- The 64 words of a block. -/
set_option linter.unusedVariables false
set_option linter.unusedSimpArgs false
set_option linter.unusedSectionVars false
set_option maxRecDepth 100000
namespace Go.Eng
open Go Go.Proofs

def sg0 (x : UInt32) : UInt32 := rotr x 7 ^^^ rotr x 18 ^^^ x >>> UInt32.ofNat 3
def sg1 (x : UInt32) : UInt32 := rotr x 17 ^^^ rotr x 19 ^^^ x >>> UInt32.ofNat 10
/-- The next word. -/
def nxt (l : List UInt32) : UInt32 := l.getD (l.length - 16) 0 + sg0 (l.getD (l.length - 15) 0) + l.getD (l.length - 7) 0 + sg1 (l.getD (l.length - 2) 0)
def ext : Nat → List UInt32 → List UInt32
  | 0, l => l
  | k + 1, l => ext k (l ++ [nxt l])
/-- Four bytes, a word. -/
def wd4 (l : List Nat) : UInt32 := l.foldl (fun a c => a <<< UInt32.ofNat 8 ||| UInt32.ofNat c) 0
def words16 (d : List Nat) (n : Nat) : List UInt32 := (List.range n).map fun i => wd4 ((d.drop (4 * i)).take 4)
def sched (d : List Nat) : List UInt32 := ext 48 (words16 d 16)
theorem ext_len : ∀ (k : Nat) (l : List UInt32), (ext k l).length = l.length + k
  | 0, l => rfl
  | k + 1, l => by rw [ext, ext_len k]; simp; omega
theorem words16_len (d : List Nat) (n : Nat) : (words16 d n).length = n := by simp [words16]
theorem words16_up (d : List Nat) (n : Nat) : words16 d (n + 1) = words16 d n ++ [wd4 ((d.drop (4 * n)).take 4)] := by simp [words16, List.range_succ]
theorem sched_len (d : List Nat) : (sched d).length = 64 := by rw [sched, ext_len, words16_len]

/-- A list of 64, of which the first are known. -/
def pad64 (l : List UInt32) : List UInt32 := l ++ List.replicate (64 - l.length) 0
theorem pad64_len {l : List UInt32} (h : l.length ≤ 64) : (pad64 l).length = 64 := by simp [pad64]; omega
theorem pad64_at {l : List UInt32} {i : Nat} (h : i < l.length) : (pad64 l)[i]? = some (l.getD i 0) := by
  simp [pad64, List.getElem?_append_left h, List.getD_eq_getElem?_getD, List.getElem?_eq_getElem h]
theorem pad64_zero {l : List UInt32} (h : l.length < 64) : (pad64 l)[l.length]? = some 0 := by
  rw [pad64, List.getElem?_append_right (Nat.le_refl _), List.getElem?_replicate, if_pos (by omega)]
theorem pad64_set {l : List UInt32} (h : l.length < 64) (x : UInt32) : (pad64 l).set l.length x = pad64 (l ++ [x]) := by
  obtain ⟨k, hk⟩ : ∃ k, 64 - l.length = k + 1 := ⟨63 - l.length, by omega⟩
  have hk2 : 64 - (l ++ [x]).length = k := by simp; omega
  rw [pad64, pad64, hk, hk2, List.replicate_succ, List.set_append_right (h := Nat.le_refl _)]
  simp
theorem pad64_set2 {l : List UInt32} (x y : UInt32) : ((pad64 l).set l.length x).set l.length y = (pad64 l).set l.length y := by simp [List.set_set]
theorem set_self {α : Type} {l : List α} {i : Nat} {x : α} (h : l[i]? = some x) : l.set i x = l := by
  apply List.ext_getElem?
  intro j
  rw [List.getElem?_set]
  split
  · rename_i e
    subst e
    split
    · exact h.symm
    · rename_i hn; exact absurd (List.getElem?_eq_some_iff.1 h).1 hn
  · rfl
theorem pad64_all {l : List UInt32} (h : l.length = 64) : pad64 l = l := by simp [pad64, h]
theorem cv_iv8 {c : Nat} (hc : c < 256) {H : Heap} : cvI .u32 (.int .u8 (c : Int)) H = some (iv (UInt32.ofNat c), H) := cv_iv
theorem ldp {H : Heap} {ws : List UInt32} {i : Nat} {x : UInt32} (h : ws[i]? = some x) : ldC (ptr H.n i) (H.push ⟨WC ws, 1, true⟩) = some (iv x, H.push ⟨WC ws, 1, true⟩) := ldG push_self (WC_at h)
theorem stp {H : Heap} {ws : List UInt32} {i : Nat} {x : UInt32} (h : i < ws.length) : stV 1 (ptr H.n i) (iv x) (H.push ⟨WC ws, 1, true⟩) = some (undef, H.push ⟨WC (ws.set i x), 1, true⟩) := by
  rw [st1_push (by rw [WC_len]; exact h) iv_cells iv_one, WC_set]

section
variable {H : Heap} {d : List Nat} {v : Value} (hd : d.length = 64) (hb : ∀ c ∈ d, c < 256) (hs : Sl (all H) H 1 v d.length (B d))
include hd hb hs
theorem spread_in {l : List UInt32} (hl : l.length < 16) {w : Value} (hw : Sl (all H) H 1 w ((d.drop (4 * l.length)).take 4).length (B ((d.drop (4 * l.length)).take 4)))
    {R0 : Nat → Nat → Value → Value → Value → Heap → Option (Value × Heap)} {r : Value × Heap}
    (hR : Ev (fun n m => f34_J1 real (AC n) n (R0 n m) v (ptr H.n 0) (.int .i64 (l.length : Int)) (H.push ⟨WC (pad64 (l ++ [wd4 ((d.drop (4 * l.length)).take 4)])), 1, true⟩)) r) :
    ∀ (k j : Nat), j + k = 4 → Ev3 (fun n m i => f34_L1 real (AC n) n (R0 n m) i v (ptr H.n 0) (.int .i64 (l.length : Int)) (.int .i64 (l.length : Int)) w (.int .i64 4) (.int .i64 (j : Int)) (H.push ⟨WC ((pad64 l).set l.length (wd4 (((d.drop (4 * l.length)).take 4).take j))), 1, true⟩)) r := by
  obtain ⟨q, hq⟩ : ∃ q, (d.drop (4 * l.length)).take 4 = q := ⟨_, rfl⟩
  have hq4 : q.length = 4 := by rw [← hq]; simp; omega
  have hqb : ∀ c ∈ q, c < 256 := fun c hc => hb c (by rw [← hq] at hc; exact List.mem_of_mem_drop (List.mem_of_mem_take hc))
  rw [hq] at hw hR ⊢
  intro k
  induction k with
  | zero =>
    intro j hj
    obtain rfl : j = 4 := by omega
    refine Ev3.step (fun n m i => f34_L1.eq_2 _ _ _ _ _ _ _ _ _ _ _ _ _) ?_
    have e : (((4 : Nat) : Int) < 4) = False := by simp
    have ht : q.take 4 = q := by rw [← hq4, List.take_length]
    simp only [ruA, ruC Try.prog 3 .i64, e, decide_false, ht, pad64_set (show l.length < 64 by omega)]
    exact Ev3.of hR
  | succ k ih =>
    intro j hj
    refine Ev3.step (fun n m i => f34_L1.eq_2 _ _ _ _ _ _ _ _ _ _ _ _ _) ?_
    have e : ((j : Int) < 4) = True := by simp; omega
    obtain ⟨c, hc, _⟩ := drop_at (l := q) (i := j) (by omega)
    have hc256 := hqb c (List.mem_of_getElem? hc)
    obtain ⟨p, p1, p2⟩ := (hw.keep (H' := H.push ⟨WC ((pad64 l).set l.length (wd4 (q.take j))), 1, true⟩) push_keep).at1 (B_at hc)
    have hlen : l.length < ((pad64 l).set l.length (wd4 (q.take j))).length := by rw [List.length_set, pad64_len (by omega)]; omega
    have hget : ((pad64 l).set l.length (wd4 (q.take j)))[l.length]? = some (wd4 (q.take j)) := by
      rw [List.getElem?_set_self (by rw [pad64_len (by omega)]; omega)]
    have hw4 : wd4 (q.take (j + 1)) = wd4 (q.take j) <<< UInt32.ofNat 8 ||| UInt32.ofNat c := by
      rw [List.take_add_one, hc, wd4, wd4, List.foldl_append]; rfl
    have h8 : ∀ x : UInt32, binB Try.prog .shl 22 (iv x) (.int .u64 8) = some (iv (x <<< UInt32.ofNat 8)) := fun x => w_shl (k := 8) (by omega)
    have hset : ((pad64 l).set l.length (wd4 (q.take j))).set l.length (wd4 (q.take (j + 1))) = (pad64 l).set l.length (wd4 (q.take (j + 1))) := pad64_set2 _ _
    simp only [ruA, ruB, ruC, ruE, ruD, lenStr, Int.reduceBEq, Int.reduceBNe, e, p1, p2, iA (show l.length < 64 by omega), ldp hget, h8, cv_iv8 hc256, w_or, ← hw4, stp hlen, hset, idx_up (show j < 9223372036854775807 by omega)]
    exact ih (j + 1) (by omega)
theorem spread_first {r : Value × Heap} (hR : Ev (fun n m => f34_L0 real (AC n) n m v (ptr H.n 0) (.int .i64 (16 : Int)) (H.push ⟨WC (pad64 (words16 d 16)), 1, true⟩)) r) :
    ∀ (k i : Nat), i + k = 16 → Ev (fun n m => f34_L0 real (AC n) n m v (ptr H.n 0) (.int .i64 (i : Int)) (H.push ⟨WC (pad64 (words16 d i)), 1, true⟩)) r := by
  intro k
  induction k with
  | zero =>
    intro i hi
    obtain rfl : i = 16 := by omega
    exact hR
  | succ k ih =>
    intro i hi
    refine Ev.step (fun n m => f34_L0.eq_2 _ _ _ _ _ _ _ _) ?_
    have e1 : ((i : Int) < 64) = True := by simp; omega
    have e2 : ((i : Int) < 16) = True := by simp; omega
    have hl : (words16 d i).length = i := words16_len d i
    obtain ⟨w, w1, w2⟩ := By.part hs (k := .i64) (k' := .i64) (i := 4 * i) (j := 4 * (i + 1)) (by omega) (by omega)
    have e3 : binB Try.prog .mul 3 (.int .i64 4) (.int .i64 (i : Int)) = some (.int .i64 ((4 * i : Nat) : Int)) := by
      rw [b_mul, wrap_i64 (by omega) (by omega)]; simp
    have e4 : binB Try.prog .mul 3 (.int .i64 4) (.int .i64 ((i + 1 : Nat) : Int)) = some (.int .i64 ((4 * (i + 1) : Nat) : Int)) := by
      rw [b_mul, wrap_i64 (by omega) (by omega)]; simp
    have hq : (d.drop (4 * i)).take (4 * (i + 1) - 4 * i) = (d.drop (4 * i)).take 4 := by rw [show 4 * (i + 1) - 4 * i = 4 by omega]
    rw [hq] at w2
    have hq4 : ((d.drop (4 * i)).take 4).length = 4 := by simp; omega
    have hlw : lenS w = some (.int .i64 4) := by have := w2.lenS; rwa [hq4] at this
    have hz : (pad64 (words16 d i)).set i (wd4 (((d.drop (4 * i)).take 4).take 0)) = pad64 (words16 d i) := by
      have h0 := pad64_zero (l := words16 d i) (by omega)
      rw [hl] at h0
      exact set_self h0
    simp only [ruA, ruB, ruC, ruE, ruD, lenStr, Int.reduceBEq, Int.reduceBNe, e1, e2, e3, e4, idx_up (show i < 9223372036854775807 by omega), w1, hlw]
    have := spread_in hd hb hs (l := words16 d i) (by omega) (w := w) (by rw [hl]; exact w2) (R0 := fun n m => f34_L0 real (AC n) n m) (r := r) (by
      rw [hl, ← words16_up]
      simp only [f34_J1, ruA, ruB, ruC, ruE, ruD, lenStr, Int.reduceBEq, Int.reduceBNe, idx_up (show i < 9223372036854775807 by omega)]
      exact ih (i + 1) (by omega)) 4 0 (by omega)
    rw [hl, hz] at this
    exact Ev3.close this
theorem spread_rest : ∀ (k : Nat) (l : List UInt32), l.length + k = 64 → 16 ≤ l.length →
    Ev (fun n m => f34_L0 real (AC n) n m v (ptr H.n 0) (.int .i64 (l.length : Int)) (H.push ⟨WC (pad64 l), 1, true⟩)) (.agg (WC (ext k l)).toArray, H.push ⟨WC (ext k l), 1, true⟩) := by
  intro k
  induction k with
  | zero =>
    intro l hl _
    refine Ev.step (fun n m => f34_L0.eq_2 _ _ _ _ _ _ _ _) ?_
    have e1 : ((l.length : Int) < 64) = False := by simp; omega
    have h64 : (WC l).length = 64 := by rw [WC_len]; omega
    rw [pad64_all (by omega)]
    simp only [ruA, ruB, ruC, ruE, ruD, lenStr, Int.reduceBEq, Int.reduceBNe, e1, ldA_push h64.symm, stA_push h64 h64 (WC_one l), resM1, one1, Option.map_some, ext]
    exact Ev.pure _
  | succ k ih =>
    intro l hl h16
    refine Ev.step (fun n m => f34_L0.eq_2 _ _ _ _ _ _ _ _) ?_
    have e1 : ((l.length : Int) < 64) = True := by simp; omega
    have e2 : ((l.length : Int) < 16) = False := by simp; omega
    have sub : ∀ c : Nat, c ≤ 16 → IntKind.i64.wrap ((l.length : Int) - (c : Int)) = ((l.length - c : Nat) : Int) := fun c hc => by rw [wrap_i64 (by omega) (by omega)]; omega
    have s15 := sub 15 (by omega)
    have s2 := sub 2 (by omega)
    have s16 := sub 16 (by omega)
    have s7 := sub 7 (by omega)
    simp only [Int.cast_ofNat_Int] at s15 s2 s16 s7
    have a : ∀ c : Nat, c ≤ 16 → 0 < c → (pad64 l)[l.length - c]? = some (l.getD (l.length - c) 0) := fun c h1 h2 => pad64_at (by omega)
    have h3 : ∀ x : UInt32, binB Try.prog .shr 22 (iv x) (.int .u64 3) = some (iv (x >>> UInt32.ofNat 3)) := fun x => w_shr (k := 3) (by omega)
    have h10 : ∀ x : UInt32, binB Try.prog .shr 22 (iv x) (.int .u64 10) = some (iv (x >>> UInt32.ofNat 10)) := fun x => w_shr (k := 10) (by omega)
    have hst : l.length < (pad64 l).length := by rw [pad64_len (by omega)]; omega
    simp only [ruA, ruB, ruC, ruE, ruD, lenStr, Int.reduceBEq, Int.reduceBNe, e1, e2, s15, s2, s16, s7, iA (show l.length - 15 < 64 by omega), iA (show l.length - 2 < 64 by omega), iA (show l.length - 16 < 64 by omega), ldp (a 15 (by omega) (by omega)), ldp (a 2 (by omega) (by omega)), ldp (a 16 (by omega) (by omega))]
    refine Ev.callC (turn_ok (n := 7) (by omega) (by omega)) ?_
    simp only [ruA, ruB, ruC, ruE, ruD, lenStr, Int.reduceBEq, Int.reduceBNe, same_refl, Bool.and_true]
    refine Ev.callC (turn_ok (n := 18) (by omega) (by omega)) ?_
    simp only [ruA, ruB, ruC, ruE, ruD, lenStr, Int.reduceBEq, Int.reduceBNe, same_refl, Bool.and_true, w_xor, h3, w_add, s7, iA (show l.length - 7 < 64 by omega), ldp (a 7 (by omega) (by omega))]
    refine Ev.callC (turn_ok (n := 17) (by omega) (by omega)) ?_
    simp only [ruA, ruB, ruC, ruE, ruD, lenStr, Int.reduceBEq, Int.reduceBNe, same_refl, Bool.and_true]
    refine Ev.callC (turn_ok (n := 19) (by omega) (by omega)) ?_
    simp only [ruA, ruB, ruC, ruE, ruD, lenStr, Int.reduceBEq, Int.reduceBNe, same_refl, Bool.and_true, w_xor, h10, w_add, iA (show l.length < 64 by omega), stp hst, pad64_set (show l.length < 64 by omega), f34_J1, idx_up (show l.length < 9223372036854775807 by omega)]
    have := ih (l ++ [nxt l]) (by simp; omega) (by simp; omega)
    rw [show (l ++ [nxt l]).length = l.length + 1 by simp] at this
    exact this
theorem spread_ok : ∃ H', Cl 34 [v] H (.agg (WC (sched d)).toArray) H' ∧ Keep (all H) H H' := by
  refine ⟨H.push ⟨WC (sched d), 1, true⟩, ?_, push_keep⟩
  refine Ev.enter (fun n => f34_eq rfl n _ _) ?_
  simp only [f34, ruA, rep_WC, newV_box (WC_one _)]
  have h := spread_rest hd hb hs 48 (words16 d 16) (by rw [words16_len]) (by rw [words16_len]; omega)
  rw [words16_len] at h
  exact Ev.loop (spread_first hd hb hs h 16 0 (by omega))
end
end Go.Eng

/- What a block makes of eight words. -/
set_option linter.unusedVariables false
set_option linter.unusedSimpArgs false
set_option linter.unusedSectionVars false
set_option maxRecDepth 100000
namespace Go.Eng
open Go Go.Proofs

structure S8 where
  a : UInt32
  b : UInt32
  c : UInt32
  d : UInt32
  e : UInt32
  f : UInt32
  g : UInt32
  h : UInt32
def S8.l (s : S8) : List UInt32 := [s.a, s.b, s.c, s.d, s.e, s.f, s.g, s.h]
def sm1 (x : UInt32) : UInt32 := rotr x 6 ^^^ rotr x 11 ^^^ rotr x 25
def sm0 (x : UInt32) : UInt32 := rotr x 2 ^^^ rotr x 13 ^^^ rotr x 22
def chw (e f g : UInt32) : UInt32 := (e &&& f) ^^^ (~~~e &&& g)
def mjw (a b c : UInt32) : UInt32 := (a &&& b) ^^^ (a &&& c) ^^^ (b &&& c)
def onew (s : S8) (k w : UInt32) : UInt32 := s.h + sm1 s.e + chw s.e s.f s.g + k + w
def rnd (s : S8) (k w : UInt32) : S8 := ⟨onew s k w + (sm0 s.a + mjw s.a s.b s.c), s.a, s.b, s.c, s.d + onew s k w, s.e, s.f, s.g⟩
def rnds (l : List (UInt32 × UInt32)) (s : S8) : S8 := l.foldl (fun s p => rnd s p.1 p.2) s
def S8.add (s t : S8) : S8 := ⟨s.a + t.a, s.b + t.b, s.c + t.c, s.d + t.d, s.e + t.e, s.f + t.f, s.g + t.g, s.h + t.h⟩
def blkW (s : S8) (k w : List UInt32) : S8 := s.add (rnds (k.zip w) s)
def blk (s : S8) (d : List Nat) : S8 := blkW s KK (sched d)
theorem zip_at {k w : List UInt32} {i : Nat} {x y : UInt32} (h1 : k[i]? = some x) (h2 : w[i]? = some y) : (k.zip w).drop i = (x, y) :: (k.zip w).drop (i + 1) := by
  have h : (k.zip w)[i]? = some (x, y) := by rw [List.getElem?_zip_eq_some]; exact ⟨h1, h2⟩
  obtain ⟨hl, he⟩ := List.getElem?_eq_some_iff.1 h
  rw [List.drop_eq_getElem_cons hl, he]
theorem bld8 {H : Heap} {s : S8} : bld [.int .u32 0, .int .u32 0, .int .u32 0, .int .u32 0, .int .u32 0, .int .u32 0, .int .u32 0, .int .u32 0] [(0, 1, iv s.a), (1, 1, iv s.b), (2, 1, iv s.c), (3, 1, iv s.d), (4, 1, iv s.e), (5, 1, iv s.f), (6, 1, iv s.g), (7, 1, iv s.h)] H = some (.agg (WC s.l).toArray, H) := by
  have : fillC [Value.int .u32 0, .int .u32 0, .int .u32 0, .int .u32 0, .int .u32 0, .int .u32 0, .int .u32 0, .int .u32 0] [(0, 1, iv s.a), (1, 1, iv s.b), (2, 1, iv s.c), (3, 1, iv s.d), (4, 1, iv s.e), (5, 1, iv s.f), (6, 1, iv s.g), (7, 1, iv s.h)] = some (WC s.l) := by rfl
  unfold bld
  rw [this]
theorem zero8 : ([Value.int .u32 0, .int .u32 0, .int .u32 0, .int .u32 0, .int .u32 0, .int .u32 0, .int .u32 0, .int .u32 0] : List Value) = WC (List.replicate 8 0) := by rfl
theorem bld80 {H : Heap} : bld [.int .u32 0, .int .u32 0, .int .u32 0, .int .u32 0, .int .u32 0, .int .u32 0, .int .u32 0, .int .u32 0] [] H = some (.agg (WC (List.replicate 8 0)).toArray, H) := by rfl
theorem stG {H : Heap} {b n : Nat} {cs ds : List Value} (h : H.get b = some ⟨cs, 1, true⟩) (hc : cs.length = n) (hd : ds.length = n) (h1 : ds.all oneC = true) : stV n (ptr b 0) (.agg ds.toArray) H = some (undef, H.upd b (some ⟨ds, 1, true⟩)) := by
  subst hc
  have e : splice cs 0 ds = ds := by simp [splice, hd]
  have h' : ds.all Value.oneCell' = true := h1
  simp only [stV, h, Value.cells, e]
  rw [if_pos]
  exact ⟨by simp [hd], h', by omega, Blk.w_mk⟩
theorem ldAG {H : Heap} {b n sz : Nat} {ow : Bool} {cs : List Value} (h : H.get b = some ⟨cs, sz, ow⟩) (hn : cs.length = n) : Eng.ldA n (ptr b 0) H = some (.agg cs.toArray, H) :=
  Box.all (R := fun _ => True) ⟨trivial, _, _, h⟩ hn.symm
theorem WC8 (s : S8) : (WC s.l).length = 8 := rfl

section
variable {H : Heap} {b2 b4 b6 b7 : Nat} {s0 : S8} {K W : List UInt32} {cs4 : List Value}
  (h2 : H.get b2 = some ⟨WC s0.l, 1, true⟩) (h4 : H.get b4 = some ⟨cs4, 1, true⟩) (h6 : H.get b6 = some ⟨WC K, 1, true⟩) (h7 : H.get b7 = some ⟨WC W, 1, true⟩) (h48 : cs4.length = 8) (hK : K.length = 64) (hW : W.length = 64)
include h2 h4 h6 h7 h48 hK hW
theorem block_loop : ∀ (k i : Nat) (s : S8), i + k = 64 →
    Ev (fun n m => f15_L0 real (AC n) n m (ptr b2 0) (ptr b4 0) (ptr b6 0) (ptr b7 0) (iv s.a) (iv s.b) (iv s.c) (iv s.d) (iv s.e) (iv s.f) (iv s.g) (iv s.h) (.int .i64 (i : Int)) H)
      (.tuple #[.agg (WC (s0.add (rnds ((K.zip W).drop i) s)).l).toArray, .int .i64 0], H.upd b4 (some ⟨WC (s0.add (rnds ((K.zip W).drop i) s)).l, 1, true⟩)) := by
  intro k
  induction k with
  | zero =>
    intro i s hi
    have e0 : (K.zip W).drop i = [] := List.drop_eq_nil_of_le (by rw [List.length_zip]; omega)
    have ef : rnds ((K.zip W).drop i) s = s := by rw [e0]; rfl
    rw [ef]
    refine Ev.step (fun n m => f15_L0.eq_2 _ _ _ _ _ _ _ _ _ _ _ _ _ _ _ _ _ _) ?_
    have e : ((i : Int) < 64) = False := by simp; omega
    have a : ∀ j : Nat, j < 8 → iAddrA 8 1 (ptr b2 0) (.int .i64 (j : Int)) = some (ptr b2 j) := fun j hj => iA hj
    have a0 := a 0 (by omega)
    have a1 := a 1 (by omega)
    have a2 := a 2 (by omega)
    have a3 := a 3 (by omega)
    have a4 := a 4 (by omega)
    have a5 := a 5 (by omega)
    have a6 := a 6 (by omega)
    have a7 := a 7 (by omega)
    simp only [Int.cast_ofNat_Int] at a0 a1 a2 a3 a4 a5 a6 a7
    have l0 : ldC (ptr b2 0) H = some (iv s0.a, H) := ldG h2 rfl
    have l1 : ldC (ptr b2 1) H = some (iv s0.b, H) := ldG h2 rfl
    have l2 : ldC (ptr b2 2) H = some (iv s0.c, H) := ldG h2 rfl
    have l3 : ldC (ptr b2 3) H = some (iv s0.d, H) := ldG h2 rfl
    have l4 : ldC (ptr b2 4) H = some (iv s0.e, H) := ldG h2 rfl
    have l5 : ldC (ptr b2 5) H = some (iv s0.f, H) := ldG h2 rfl
    have l6 : ldC (ptr b2 6) H = some (iv s0.g, H) := ldG h2 rfl
    have l7 : ldC (ptr b2 7) H = some (iv s0.h, H) := ldG h2 rfl
    have hb := bld8 (H := H) (s := s0.add s)
    simp only [S8.add] at hb
    simp only [ruA, ruB, ruC, ruE, ruD, lenStr, Int.reduceBEq, Int.reduceBNe, e, a0, a1, a2, a3, a4, a5, a6, a7, l0, l1, l2, l3, l4, l5, l6, l7, w_add, hb]
    rw [stG h4 h48 (WC8 _) (WC_one _)]
    simp only [ruA, ruB, ruC, ruE, ruD, lenStr, Int.reduceBEq, Int.reduceBNe]
    rw [ldAG upd_self (WC8 _)]
    simp only [Option.map_some, resM2, one2]
    exact Ev.pure _
  | succ k ih =>
    intro i s hi
    obtain ⟨kk, hk1, _⟩ := drop_at (l := K) (i := i) (by omega)
    obtain ⟨ww, hw1, _⟩ := drop_at (l := W) (i := i) (by omega)
    have ed := zip_at hk1 hw1
    have ef : rnds ((K.zip W).drop i) s = rnds ((K.zip W).drop (i + 1)) (rnd s kk ww) := by rw [ed]; rfl
    rw [ef]
    refine Ev.step (fun n m => f15_L0.eq_2 _ _ _ _ _ _ _ _ _ _ _ _ _ _ _ _ _ _) ?_
    have e : ((i : Int) < 64) = True := by simp; omega
    have l6 : ldC (ptr b6 i) H = some (iv kk, H) := ldG h6 (WC_at hk1)
    have l7 : ldC (ptr b7 i) H = some (iv ww, H) := ldG h7 (WC_at hw1)
    simp only [ruA, ruB, ruC, ruE, ruD, lenStr, Int.reduceBEq, Int.reduceBNe, e]
    refine Ev.callC (turn_ok (n := 6) (by omega) (by omega)) ?_
    refine Ev.callC (turn_ok (n := 11) (by omega) (by omega)) ?_
    simp only [ruA, ruB, ruC, ruE, ruD, lenStr, Int.reduceBEq, Int.reduceBNe, w_xor]
    refine Ev.callC (turn_ok (n := 25) (by omega) (by omega)) ?_
    simp only [ruA, ruB, ruC, ruE, ruD, lenStr, Int.reduceBEq, Int.reduceBNe, w_xor, w_add, w_and, w_not, iA (show i < 64 by omega), same_refl, Bool.and_true, l6, l7]
    refine Ev.callC (turn_ok (n := 2) (by omega) (by omega)) ?_
    refine Ev.callC (turn_ok (n := 13) (by omega) (by omega)) ?_
    simp only [ruA, ruB, ruC, ruE, ruD, lenStr, Int.reduceBEq, Int.reduceBNe, w_xor]
    refine Ev.callC (turn_ok (n := 22) (by omega) (by omega)) ?_
    simp only [ruA, ruB, ruC, ruE, ruD, lenStr, Int.reduceBEq, Int.reduceBNe, w_xor, w_add, w_and, idx_up (show i < 9223372036854775807 by omega)]
    exact ih (i + 1) (rnd s kk ww) (by omega)
end
theorem block_ok {H : Heap} {d : List Nat} {v : Value} (s : S8) (hd : d.length = 64) (hb : ∀ c ∈ d, c < 256) (hs : Sl (all H) H 1 v d.length (B d)) :
    ∃ H', Cl 15 [.agg (WC s.l).toArray, v] H (.tuple #[.agg (WC (blk s d).l).toArray, .int .i64 0]) H' ∧ Keep (all H) H H' := by
  obtain ⟨H1, hH1⟩ : ∃ H1, (H.push ⟨WC s.l, 1, true⟩).push ⟨WC (List.replicate 8 0), 1, true⟩ = H1 := ⟨_, rfl⟩
  have k1 : Keep (all H) H H1 := by rw [← hH1]; exact push_keep.trans (push_keep.mono (upA push_keep))
  have n1 : H1.n = H.n + 2 := by rw [← hH1]; rfl
  have g2 : H1.get H.n = some ⟨WC s.l, 1, true⟩ := by rw [← hH1, push_lt (by simp [push_n])]; exact push_self
  have g4 : H1.get (H.n + 1) = some ⟨WC (List.replicate 8 0), 1, true⟩ := by rw [← hH1]; exact push_self
  obtain ⟨H2, c2, k2⟩ := keys_ok H1
  have hs2 : Sl (all H2) H2 1 v d.length (B d) := (hs.keep (k1.trans (k2.mono (upA k1)))).mono (upA (k1.trans (k2.mono (upA k1))))
  obtain ⟨H3, c3, k3⟩ := spread_ok hd hb hs2
  obtain ⟨H4, hH4⟩ : ∃ H4, (H3.push ⟨WC KK, 1, true⟩).push ⟨WC (sched d), 1, true⟩ = H4 := ⟨_, rfl⟩
  have n2 := k2.1
  have n3 := k3.1
  have q2 : H4.get H.n = some ⟨WC s.l, 1, true⟩ := by
    rw [← hH4, push_lt (by simp [push_n]; omega), push_lt (by omega), k3.2 _ (show H.n < H2.n by omega), k2.2 _ (show H.n < H1.n by omega)]; exact g2
  have q4 : H4.get (H.n + 1) = some ⟨WC (List.replicate 8 0), 1, true⟩ := by
    rw [← hH4, push_lt (by simp [push_n]; omega), push_lt (by omega), k3.2 _ (show H.n + 1 < H2.n by omega), k2.2 _ (show H.n + 1 < H1.n by omega)]; exact g4
  have q6 : H4.get H3.n = some ⟨WC KK, 1, true⟩ := by rw [← hH4, push_lt (by simp [push_n])]; exact push_self
  have q7 : H4.get (H3.n + 1) = some ⟨WC (sched d), 1, true⟩ := by rw [← hH4]; exact push_self
  refine ⟨H4.upd (H.n + 1) (some ⟨WC (blk s d).l, 1, true⟩), ?_, ?_⟩
  · refine Ev.enter (fun n => f15_eq rfl n _ _ _) ?_
    have hlen : lenS v = some (.int .i64 64) := by have := hs.lenS; rwa [hd] at this
    simp only [f15, ruA, newA (WC_one s.l)]
    rw [zero8]
    simp only [ruA, newV_box (WC_one _), hlen, push_n, hH1, ruC Try.prog 3 .i64, bt_bne]
    refine Ev.callC c2 ?_
    refine Ev.callC c3 ?_
    simp only [ruA, rep_WC, newV_box (WC_one _), push_n]
    have st1 : stV 64 (ptr H3.n 0) (.agg (WC KK).toArray) ((H3.push ⟨WC (List.replicate 64 0), 1, true⟩).push ⟨WC (List.replicate 64 0), 1, true⟩) = some (undef, (H3.push ⟨WC KK, 1, true⟩).push ⟨WC (List.replicate 64 0), 1, true⟩) := by
      rw [stG (cs := WC (List.replicate 64 0)) (by rw [push_lt (by simp [push_n])]; exact push_self) (by rw [WC_len, List.length_replicate]) (by rw [WC_len]; rfl) (WC_one _)]
      congr 2
      unfold Heap.push Heap.upd
      congr 1
      funext i
      by_cases e1 : i = H3.n
      · subst e1; simp
      · by_cases e2 : i = H3.n + 1 <;> simp [e1, e2]
    have st2 : stV 64 (ptr (H3.n + 1) 0) (.agg (WC (sched d)).toArray) ((H3.push ⟨WC KK, 1, true⟩).push ⟨WC (List.replicate 64 0), 1, true⟩) = some (undef, H4) := by
      have := stA_push (H := H3.push ⟨WC KK, 1, true⟩) (cs := WC (List.replicate 64 0)) (ds := WC (sched d)) (n := 64) (by rw [WC_len, List.length_replicate]) (by rw [WC_len, sched_len]) (WC_one _)
      rw [push_n, hH4] at this
      exact this
    simp only [ruA, st1, st2]
    have a : ∀ j : Nat, j < 8 → iAddrA 8 1 (ptr H.n 0) (.int .i64 (j : Int)) = some (ptr H.n j) := fun j hj => iA hj
    have a0 := a 0 (by omega)
    have a1 := a 1 (by omega)
    have a2 := a 2 (by omega)
    have a3 := a 3 (by omega)
    have a4 := a 4 (by omega)
    have a5 := a 5 (by omega)
    have a6 := a 6 (by omega)
    have a7 := a 7 (by omega)
    simp only [Int.cast_ofNat_Int] at a0 a1 a2 a3 a4 a5 a6 a7
    have l0 : ldC (ptr H.n 0) H4 = some (iv s.a, H4) := ldG q2 rfl
    have l1 : ldC (ptr H.n 1) H4 = some (iv s.b, H4) := ldG q2 rfl
    have l2 : ldC (ptr H.n 2) H4 = some (iv s.c, H4) := ldG q2 rfl
    have l3 : ldC (ptr H.n 3) H4 = some (iv s.d, H4) := ldG q2 rfl
    have l4 : ldC (ptr H.n 4) H4 = some (iv s.e, H4) := ldG q2 rfl
    have l5 : ldC (ptr H.n 5) H4 = some (iv s.f, H4) := ldG q2 rfl
    have l6 : ldC (ptr H.n 6) H4 = some (iv s.g, H4) := ldG q2 rfl
    have l7 : ldC (ptr H.n 7) H4 = some (iv s.h, H4) := ldG q2 rfl
    simp only [ruA, a0, a1, a2, a3, a4, a5, a6, a7, l0, l1, l2, l3, l4, l5, l6, l7]
    exact Ev.loop (block_loop q2 q4 q6 q7 (by rw [WC_len, List.length_replicate]) rfl (sched_len d) 64 0 s (by omega))
  · refine ⟨by rw [upd_n, ← hH4]; simp [push_n]; omega, fun b hb => ?_⟩
    have hb' : b < H.n := hb
    rw [upd_ne (by omega), ← hH4, push_lt (by simp [push_n]; omega), push_lt (by omega), k3.2 _ (show b < H2.n by omega), k2.2 _ (show b < H1.n by omega)]
    exact k1.2 _ hb
theorem block_no {H : Heap} {v : Value} {n : Nat} {cs : List Value} (s : S8) (hn : n ≠ 64) (hs : Sl (all H) H 1 v n cs) :
    ∃ H', Cl 15 [.agg (WC s.l).toArray, v] H (.tuple #[.agg (WC (List.replicate 8 0)).toArray, .int .i64 2]) H' ∧ Keep (all H) H H' := by
  refine ⟨(H.push ⟨WC s.l, 1, true⟩).push ⟨WC (List.replicate 8 0), 1, true⟩, ?_, push_keep.trans (push_keep.mono (upA push_keep))⟩
  refine Ev.enter (fun n => f15_eq rfl n _ _ _) ?_
  have hne : ((n : Int) != 64) = true := by simp; omega
  simp only [f15, ruA, newA (WC_one s.l)]
  rw [zero8]
  simp only [ruA, newV_box (WC_one _), hs.lenS, ruC Try.prog 3 .i64, hne]
  rw [← zero8, bld80]
  simp only [ruA]
  rw [zero8, stA_push (by rfl) (by rfl) (WC_one _)]
  simp only [ruA]
  rw [ldA_push (by rfl)]
  simp only [Option.map_some, resM2, one2]
  exact Ev.pure _
end Go.Eng
