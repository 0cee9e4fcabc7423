/- Numbers of digits of 16 bits: their product, and which is above. -/
import Derived.Test.YtmajmmknpajcgaaSO
set_option linter.unusedVariables false
set_option linter.unusedSimpArgs false
set_option linter.unusedSectionVars false
set_option maxRecDepth 100000
namespace Go.Eng
open Go Go.Proofs

def val : List Nat → Nat
  | [] => 0
  | d :: r => d + 65536 * val r
def row (x : Nat) : List Nat → List Nat → Nat → List Nat
  | y :: b, o :: f, c => ((o + x * y + c) % 65536) :: row x b f ((o + x * y + c) / 65536)
  | _, _, c => [c]
def mulA : List Nat → List Nat → List Nat → List Nat
  | [], _, f => f
  | x :: a, b, f => match row x b f 0 with
    | h :: t => h :: mulA a b t
    | [] => []
def timesN (a b : List Nat) : List Nat := mulA a b (List.replicate b.length 0)
theorem row_len (x : Nat) : ∀ (b f : List Nat) (c : Nat), f.length = b.length → (row x b f c).length = b.length + 1
  | [], [], c, _ => rfl
  | y :: b, o :: f, c, h => by
    simp only [row, List.length_cons] at h ⊢
    rw [row_len x b f _ (by omega)]
theorem row_val (x : Nat) : ∀ (b f : List Nat) (c : Nat), f.length = b.length → val (row x b f c) = val f + x * val b + c
  | [], [], c, _ => by simp [row, val]
  | y :: b, o :: f, c, h => by
    simp only [row, val]
    rw [row_val x b f _ (by simpa using h)]
    have e := Nat.mod_add_div (o + x * y + c) 65536
    generalize (o + x * y + c) / 65536 = q at e ⊢
    generalize (o + x * y + c) % 65536 = r at e ⊢
    grind
def Dg (l : List Nat) : Prop := ∀ d ∈ l, d < 65536
theorem row_dg {x : Nat} (hx : x < 65536) : ∀ (b f : List Nat) (c : Nat), f.length = b.length → Dg b → Dg f → c < 65536 → Dg (row x b f c)
  | [], [], c, _, _, _, hc => fun d hd => by simp [row] at hd; omega
  | y :: b, o :: f, c, h, hb, hf, hc => fun d hd => by
    have hy := hb y (by simp)
    have ho := hf o (by simp)
    have hm : x * y ≤ 65535 * 65535 := Nat.mul_le_mul (by omega) (by omega)
    simp only [row, List.mem_cons] at hd
    rcases hd with rfl | hd
    · exact Nat.mod_lt _ (by omega)
    · exact row_dg hx b f _ (by simpa using h) (fun d hd => hb d (by simp [hd])) (fun d hd => hf d (by simp [hd])) (by omega) d hd
theorem mulA_all (b : List Nat) (hb : Dg b) : ∀ (a f : List Nat), f.length = b.length → Dg a → Dg f → (mulA a b f).length = a.length + b.length ∧ val (mulA a b f) = val f + val a * val b ∧ Dg (mulA a b f)
  | [], f, h, _, hf => ⟨by simp [mulA, h], by simp [mulA, val], hf⟩
  | x :: a, f, h, ha, hf => by
    have hl := row_len x b f 0 h
    have hv := row_val x b f 0 h
    have hd := row_dg (ha x (by simp)) b f 0 h hb hf (by omega)
    unfold mulA
    cases hr : row x b f 0 with
    | nil => rw [hr] at hl; simp at hl
    | cons h' t =>
      rw [hr] at hl hv hd
      obtain ⟨i1, i2, i3⟩ := mulA_all b hb a t (by simpa using hl) (fun d hd => ha d (by simp [hd])) (fun d h => hd d (by simp [h]))
      refine ⟨by simp [i1]; omega, ?_, fun d hd' => ?_⟩
      · simp only [val] at hv ⊢
        rw [i2]
        grind
      · rcases List.mem_cons.1 hd' with rfl | hd'
        · exact hd d (by simp)
        · exact i3 d hd'
theorem val_zeros : ∀ n, val (List.replicate n 0) = 0
  | 0 => rfl
  | n + 1 => by rw [List.replicate_succ, val, val_zeros n]
theorem times_all {a b : List Nat} (ha : Dg a) (hb : Dg b) : (timesN a b).length = a.length + b.length ∧ val (timesN a b) = val a * val b ∧ Dg (timesN a b) := by
  obtain ⟨h1, h2, h3⟩ := mulA_all b hb a (List.replicate b.length 0) (by simp) ha (fun d hd => by rw [List.mem_replicate] at hd; omega)
  exact ⟨h1, by rw [timesN, h2, val_zeros]; omega, h3⟩

/-! ### over the small machine -/
def D (l : List Nat) : List Value := l.map fun (n : Nat) => Value.int .i64 (n : Int)
theorem D_len (l : List Nat) : (D l).length = l.length := by simp [D]
theorem D_at {l : List Nat} {i x : Nat} (h : l[i]? = some x) : (D l)[i]? = some (.int .i64 (x : Int)) := by simp [D, h]
theorem D_one (l : List Nat) : (D l).all oneC = true := by simp [D, oneC, Value.oneCell']
theorem D_set (l : List Nat) (i x : Nat) : (D l).set i (.int .i64 (x : Int)) = D (l.set i x) := by simp [D, List.map_set]
theorem D_app (a b : List Nat) : D (a ++ b) = D a ++ D b := by simp [D]
theorem rep_D (n : Nat) : rep n [.int .i64 0] = D (List.replicate n 0) := by
  induction n with
  | zero => rfl
  | succ n ih => rw [rep, ih]; rfl
theorem ldd {K : Heap} {l : List Nat} {i x : Nat} (h : l[i]? = some x) : ldC (ptr K.n i) (K.push ⟨D l, 1, true⟩) = some (.int .i64 (x : Int), K.push ⟨D l, 1, true⟩) := ldG push_self (D_at h)
theorem std {K : Heap} {l : List Nat} {i x : Nat} (h : i < l.length) : stV 1 (ptr K.n i) (.int .i64 (x : Int)) (K.push ⟨D l, 1, true⟩) = some (undef, K.push ⟨D (l.set i x), 1, true⟩) := by
  rw [st1_push (by rw [D_len]; exact h) rfl rfl, D_set]
theorem iS {X i n c : Nat} (h : i < n) : iAddrS 1 (.slice (some ⟨X, 0, none⟩) n c) (.int .i64 (i : Int)) = some (ptr X i) := by
  simp only [iAddrS]
  rw [if_pos (by omega)]
  simp
theorem and16 {s : Nat} (h : s < 9223372036854775808) : binB Try.prog .and 3 (.int .i64 (s : Int)) (.int .i64 65535) = some (.int .i64 ((s % 65536 : Nat) : Int)) := by
  rw [b_and]
  have h1 : (BitVec.ofInt IntKind.i64.bits (s : Int) &&& BitVec.ofInt IntKind.i64.bits 65535).toNat = s % 65536 := by
    rw [BitVec.toNat_and]
    show (BitVec.ofInt 64 (s : Int)).toNat &&& (BitVec.ofInt 64 ((65535 : Nat) : Int)).toNat = _
    rw [bv64 (by omega), bv64 (by omega), show (65535 : Nat) = 2 ^ 16 - 1 from rfl, Nat.and_two_pow_sub_one_eq_mod]
  rw [h1, wrap_i64 (by omega) (by omega)]
theorem shrN {s k : Nat} (hk : k < 64) : binB Try.prog .shr 3 (.int .i64 (s : Int)) (.int .u64 (k : Int)) = some (.int .i64 ((s / 2 ^ k : Nat) : Int)) := by
  have e : (min (k : Int).toNat IntKind.i64.bits) = k := by simp only [Int.toNat_natCast]; exact Nat.min_eq_left (by show k ≤ 64; omega)
  rw [b_shr (by omega), e]
  congr 2
  rw [Int.fdiv_eq_ediv_of_nonneg _ (by exact Int.pow_nonneg (by omega)), show ((2 : Int) ^ k) = ((2 ^ k : Nat) : Int) by simp]
  rfl
theorem addN {a b : Nat} (h : a + b < 9223372036854775808) : IntKind.i64.wrap ((a : Int) + (b : Int)) = ((a + b : Nat) : Int) := by rw [wrap_i64 (by omega) (by omega)]; omega
theorem mulN {a b : Nat} (h : a * b < 9223372036854775808) : binB Try.prog .mul 3 (.int .i64 (a : Int)) (.int .i64 (b : Int)) = some (.int .i64 ((a * b : Nat) : Int)) := by
  rw [b_mul, ← Int.natCast_mul, wrap_i64 (by omega) (by omega)]
section
variable {K : Heap} {va vb : Value} {a b : List Nat} (ha : Sl (all K) K 1 va a.length (D a)) (hb : Sl (all K) K 1 vb b.length (D b)) (da : Dg a) (db : Dg b) (la : a.length ≤ 1000) (lb : b.length ≤ 1000)
include ha hb da db la lb
theorem times_in {R0 : Nat → Nat → Value → Value → Value → Value → Heap → Option (Value × Heap)} {r : Value × Heap} {i x n : Nat} {pre : List Nat} (hi : a[i]? = some x) (hp : pre.length = i) (hni : i + n + 1 = a.length) :
    ∀ (bb f : List Nat) (c k : Nat) (done : List Nat), done.length = k → b.drop k = bb → f.length = bb.length → Dg f → c < 65536 → pre.length + k + f.length + n + 1 = a.length + b.length →
    Ev (fun m j => R0 m j va vb (.slice (some ⟨K.n, 0, none⟩) (a.length + b.length) (a.length + b.length)) (.int .i64 ((i + 1 : Nat) : Int)) (K.push ⟨D (pre ++ done ++ row x bb f c ++ List.replicate n 0), 1, true⟩)) r →
    Ev3 (fun m j q => f31_L1 real (AC m) m (R0 m j) q va vb (.slice (some ⟨K.n, 0, none⟩) (a.length + b.length) (a.length + b.length)) (.int .i64 (i : Int)) (.int .i64 (c : Int)) (.int .i64 (k : Int)) (K.push ⟨D (pre ++ done ++ f ++ List.replicate (n + 1) 0), 1, true⟩)) r := by
  have hx := da x (List.mem_of_getElem? hi)
  have hil : i < a.length := (List.getElem?_eq_some_iff.1 hi).1
  intro bb
  induction bb with
  | nil =>
    intro f c k done hk hbb hf df hc hlen hR
    obtain rfl : f = [] := List.eq_nil_of_length_eq_zero hf
    have hkb : b.length ≤ k := by
      have := congrArg List.length hbb; simp at this; omega
    have hkb2 : k ≤ b.length := by simp at hlen; omega
    obtain rfl : k = b.length := by omega
    refine Ev3.step (fun m j q => f31_L1.eq_2 _ _ _ _ _ _ _ _ _ _ _ q) ?_
    have hla := (hb.keep (H' := K.push ⟨D (pre ++ done ++ [] ++ List.replicate (n + 1) 0), 1, true⟩) push_keep).lenS
    have hz : (pre ++ done ++ [] ++ List.replicate (n + 1) 0)[i + b.length]? = some 0 := by
      rw [List.append_nil, List.getElem?_append_right (by simp; omega), List.getElem?_replicate, if_pos (by simp; omega)]
    have hset : (pre ++ done ++ [] ++ List.replicate (n + 1) 0).set (i + b.length) c = pre ++ done ++ row x [] [] c ++ List.replicate n 0 := by
      rw [List.append_nil, List.set_append_right (h := by simp; omega), show i + b.length - (pre ++ done).length = 0 by simp; omega, List.replicate_succ, List.set_cons_zero]
      simp [row]
    have hs := std (K := K) (l := pre ++ done ++ [] ++ List.replicate (n + 1) 0) (i := i + b.length) (x := c) (by simp at hlen ⊢; omega)
    rw [hset] at hs
    simp only [ruA, ruB, ruC, ruE, ruD, lenStr, Int.reduceBEq, Int.reduceBNe, hla, idx_ge (show b.length ≤ b.length by omega), addN (show i + b.length < 9223372036854775808 by omega), iS (X := K.n) (c := a.length + b.length) (show i + b.length < a.length + b.length by omega), ldd hz, addN (show 0 + c < 9223372036854775808 by omega), Nat.zero_add, hs, idx_up (show i < 9223372036854775807 by omega)]
    exact Ev3.of hR
  | cons y bb ih =>
    intro f c k done hk hbb hf df hc hlen hR
    cases f with
    | nil => simp at hf
    | cons o f =>
      have hy : b[k]? = some y := by
        have := congrArg List.head? hbb
        simpa [List.head?_drop] using this
      have hkl : k < b.length := (List.getElem?_eq_some_iff.1 hy).1
      have hy16 := db y (List.mem_of_getElem? hy)
      have ho16 := df o (by simp)
      have hbb' : b.drop (k + 1) = bb := by rw [← List.drop_drop, hbb]; rfl
      have hm : x * y ≤ 65535 * 65535 := Nat.mul_le_mul (by omega) (by omega)
      refine Ev3.step (fun m j q => f31_L1.eq_2 _ _ _ _ _ _ _ _ _ _ _ q) ?_
      obtain ⟨L, hL⟩ : ∃ L, pre ++ done ++ (o :: f) ++ List.replicate (n + 1) 0 = L := ⟨_, rfl⟩
      have hla := (hb.keep (H' := K.push ⟨D L, 1, true⟩) push_keep)
      have haa := (ha.keep (H' := K.push ⟨D L, 1, true⟩) push_keep)
      obtain ⟨p, p1, p2⟩ := haa.at1 (D_at hi)
      obtain ⟨q, q1, q2⟩ := hla.at1 (D_at hy)
      have hget : L[i + k]? = some o := by
        rw [← hL, List.append_assoc, List.getElem?_append_right (by simp; omega), show i + k - (pre ++ done).length = 0 by simp; omega]; rfl
      have hset : L.set (i + k) ((o + x * y + c) % 65536) = pre ++ (done ++ [(o + x * y + c) % 65536]) ++ f ++ List.replicate (n + 1) 0 := by
        rw [← hL, List.append_assoc, List.set_append_right (h := by simp; omega), show i + k - (pre ++ done).length = 0 by simp; omega]; simp
      have hLl : L.length = a.length + b.length := by rw [← hL]; simp at hlen ⊢; omega
      have hs := std (K := K) (l := L) (i := i + k) (x := (o + x * y + c) % 65536) (by omega)
      rw [hset] at hs
      have sh : binB Try.prog .shr 3 (.int .i64 ((o + x * y + c : Nat) : Int)) (.int .u64 16) = some (.int .i64 (((o + x * y + c) / 65536 : Nat) : Int)) := shrN (k := 16) (by omega)
      rw [hL]
      simp only [ruA, ruB, ruC, ruE, ruD, lenStr, Int.reduceBEq, Int.reduceBNe, hla.lenS, idx_lt hkl, addN (show i + k < 9223372036854775808 by omega), iS (X := K.n) (c := a.length + b.length) (show i + k < a.length + b.length by omega), ldd hget, p1, p2, q1, q2, mulN (show x * y < 9223372036854775808 by omega), addN (show o + x * y < 9223372036854775808 by omega), addN (show o + x * y + c < 9223372036854775808 by omega), and16 (show o + x * y + c < 9223372036854775808 by omega), hs, sh, idx_up (show k < 9223372036854775807 by omega)]
      refine ih f ((o + x * y + c) / 65536) (k + 1) (done ++ [(o + x * y + c) % 65536]) (by simp [hk]) hbb' (by simpa using hf) (fun d hd => df d (by simp [hd])) (by omega) (by simp at hlen ⊢; omega) ?_
      have e : pre ++ done ++ row x (y :: bb) (o :: f) c ++ List.replicate n 0 = pre ++ (done ++ [(o + x * y + c) % 65536]) ++ row x bb f ((o + x * y + c) / 65536) ++ List.replicate n 0 := by simp [row]
      rw [e] at hR
      exact hR
theorem times_loop : ∀ (aa f : List Nat) (i : Nat) (pre : List Nat), pre.length = i → a.drop i = aa → f.length = b.length → Dg f →
    Ev (fun m j => f31_L0 real (AC m) m j va vb (.slice (some ⟨K.n, 0, none⟩) (a.length + b.length) (a.length + b.length)) (.int .i64 (i : Int)) (K.push ⟨D (pre ++ f ++ List.replicate aa.length 0), 1, true⟩))
      (.slice (some ⟨K.n, 0, none⟩) (a.length + b.length) (a.length + b.length), K.push ⟨D (pre ++ mulA aa b f), 1, true⟩) := by
  intro aa
  induction aa with
  | nil =>
    intro f i pre hp haa hf df
    have hil : a.length ≤ i := by have := congrArg List.length haa; simp at this; omega
    refine Ev.step (fun n m => f31_L0.eq_2 _ _ _ _ _ _ _ _ m) ?_
    have h1 := (ha.keep (H' := K.push ⟨D (pre ++ f ++ List.replicate ([] : List Nat).length 0), 1, true⟩) push_keep).lenS
    simp only [ruA, ruB, ruC, ruE, ruD, lenStr, Int.reduceBEq, Int.reduceBNe, h1, idx_ge hil, List.length_nil, List.replicate_zero, List.append_nil, mulA]
    exact Ev.pure _
  | cons x aa ih =>
    intro f i pre hp haa hf df
    have hi : a[i]? = some x := by
      have := congrArg List.head? haa
      simpa [List.head?_drop] using this
    have hil : i < a.length := (List.getElem?_eq_some_iff.1 hi).1
    have haa' : a.drop (i + 1) = aa := by rw [← List.drop_drop, haa]; rfl
    have hlen : a.length = i + (aa.length + 1) := by have := congrArg List.length haa; simp at this; omega
    have hx := da x (List.mem_of_getElem? hi)
    have rl := row_len x b f 0 hf
    have rd := row_dg hx b f 0 hf db df (by omega)
    refine Ev.step (fun n m => f31_L0.eq_2 _ _ _ _ _ _ _ _ m) ?_
    have h1 := (ha.keep (H' := K.push ⟨D (pre ++ f ++ List.replicate (x :: aa).length 0), 1, true⟩) push_keep).lenS
    simp only [ruA, ruB, ruC, ruE, ruD, lenStr, Int.reduceBEq, Int.reduceBNe, h1, idx_lt hil]
    have hin := times_in ha hb da db la lb (R0 := fun m j => f31_L0 real (AC m) m j) (r := (.slice (some ⟨K.n, 0, none⟩) (a.length + b.length) (a.length + b.length), K.push ⟨D (pre ++ mulA (x :: aa) b f), 1, true⟩)) (n := aa.length) hi hp (by omega) b f 0 0 [] rfl rfl hf df (by omega) (by omega) (by
      unfold mulA
      cases hr : row x b f 0 with
      | nil => rw [hr] at rl; simp at rl
      | cons h t =>
        rw [hr] at rl rd
        have := ih t (i + 1) (pre ++ [h]) (by simp [hp]) haa' (by simpa using rl) (fun d hd => rd d (by simp [hd]))
        simpa using this)
    simp only [List.append_nil] at hin
    exact Ev3.close hin
theorem times_ok : Cl 31 [va, vb] K (.slice (some ⟨K.n, 0, none⟩) (a.length + b.length) (a.length + b.length)) (K.push ⟨D (timesN a b), 1, true⟩) := by
  refine Ev.enter (fun n => f31_eq rfl n _ _ _) ?_
  have mk : mkS 1 8 [.int .i64 0] (.int .i64 ((a.length + b.length : Nat) : Int)) (.int .i64 ((a.length + b.length : Nat) : Int)) K = some (.slice (some ⟨K.n, 0, none⟩) (a.length + b.length) (a.length + b.length), K.push ⟨D (List.replicate (a.length + b.length) 0), 1, true⟩) := by
    simp only [mkS]
    have ho := D_one (List.replicate (a.length + b.length) 0)
    rw [if_pos ⟨by omega, by omega, by omega, rfl, by omega, by omega⟩]
    simp only [newS, Int.toNat_natCast, rep_D]
    rw [if_pos ho]
  have h := times_loop ha hb da db la lb a (List.replicate b.length 0) 0 [] rfl rfl (by simp) (fun d hd => by rw [List.mem_replicate] at hd; omega)
  rw [List.nil_append, List.nil_append, List.replicate_append_replicate, show b.length + a.length = a.length + b.length by omega] at h
  simp only [f31, ruA, ruB, ruC, ruE, ruD, lenStr, Int.reduceBEq, Int.reduceBNe, ha.lenS, hb.lenS, addN (show a.length + b.length < 9223372036854775808 by omega), mk]
  exact Ev.loop h
end
end Go.Eng
