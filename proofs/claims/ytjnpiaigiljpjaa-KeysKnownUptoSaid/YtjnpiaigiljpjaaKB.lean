/- Numbers as bytes. -/
import Derived.Test.YtjnpiaigiljpjaaKA
import Derived.Test.YtjnpiaigiljpjaaEngU
set_option linter.unusedVariables false
namespace Go.Eng
open Go Go.Proofs

/-- Bytes as cells. -/
def B (l : List Nat) : List Value := l.map fun (i : Nat) => Value.int .u8 (i : Int)
theorem B_append (a b : List Nat) : B (a ++ b) = B a ++ B b := List.map_append
theorem B_length (a : List Nat) : (B a).length = a.length := by simp [B]
/-- A number's bytes. -/
def vnum (n : Nat) : List Nat := if n < 128 then [n] else (n % 128 + 128) :: vnum (n / 128)
termination_by n
decreasing_by omega

theorem vnum_len : ∀ (k x : Nat), x < 128 ^ k → 0 < k → (vnum x).length ≤ k
  | 0, x, _, h => absurd h (by omega)
  | k + 1, x, h, _ => by
    unfold vnum
    split
    · simp
    · rename_i hx
      simp only [List.length_cons]
      have hk : 0 < k := by
        rcases Nat.eq_zero_or_pos k with rfl | h1
        · simp at h; omega
        · exact h1
      have := vnum_len k (x / 128) (by rw [Nat.pow_succ] at h; omega) hk
      omega
theorem vnum_len9 {x : Nat} (h : x < 9223372036854775808) : (vnum x).length ≤ 9 := vnum_len 9 x h (by decide)
set_option maxRecDepth 100000 in
theorem or128 : ∀ x : Fin 256, (BitVec.ofInt 8 (x.val : Int) ||| BitVec.ofInt 8 128).toNat = x.val % 128 + 128 := by decide
theorem bld1 {H : Heap} {x : Value} (h : Value.oneCell' x = true) (hc : x.cells = #[x]) {z : Value} : bldS 1 1 [z] [(0, 1, x)] H = some (.slice (some ⟨H.n, 0, none⟩) 1 1, H.push ⟨[x], 1, true⟩) := by
  simp [bldS, rep, fillC, hc, splice, newS, h]
theorem cvI_u8 {H : Heap} {k : IntKind} {n : Int} : cvI .u8 (.int k n) H = some (.int .u8 (n % 256), H) := by
  simp [cvI, IntKind.wrap, IntKind.bits, IntKind.signed]
theorem addend_push {H : Heap} {cs : List Value} {sz n : Nat} (h : cs.length = n * sz) : addend sz (.slice (some ⟨H.n, 0, none⟩) n n) (H.push ⟨cs, sz, true⟩) = some (n, cs) := by
  by_cases hn : n = 0
  · subst hn
    have : cs = [] := List.length_eq_zero_iff.1 (by simpa using h)
    subst this
    rfl
  · simp only [addend, if_neg hn, push_self]
    rw [if_pos (by omega)]
    simp [cut, ← h]
theorem Acc.push {R : Nat → Prop} {H : Heap} {sz n : Nat} {v : Value} {cs : List Value} {blk : Blk} (h : Acc R H sz v n cs) : Acc R (H.push blk) sz v n cs := h.keep (Keep.push (Rb.all H))

/-- A byte is appended. -/
theorem byte_app {R : Nat → Prop} {H : Heap} {n : Nat} {v : Value} {l : List Nat} {x : Nat} (h : Acc R H 1 v n (B l)) (hN : Rb R H) (hb : n + 1 ≤ mostBytes) :
    ∃ v' H', app 1 1 v (.slice (some ⟨H.n, 0, none⟩) 1 1) (H.push ⟨[.int .u8 (x : Int)], 1, true⟩) = some (v', H') ∧ Acc R H' 1 v' (n + 1) (B (l ++ [x])) ∧ Keep R H H' := by
  obtain ⟨v', H', h1, h2, h3⟩ := (h.push (blk := ⟨[.int .u8 (x : Int)], 1, true⟩)).app (x := .slice (some ⟨H.n, 0, none⟩) 1 1) (k := 1) (xs := [.int .u8 (x : Int)]) (by_ := 1) (hN.mono (by simp [Heap.push])) (addend_push rfl) rfl (by omega)
  exact ⟨v', H', h1, by rw [B_append]; exact h2, (Keep.push hN).trans h3⟩

section
variable {C : Nat → CallF}
theorem num_loop (R : Nat → Prop) : ∀ (x n : Nat) (H : Heap) (v : Value) (l : List Nat), Acc R H 1 v n (B l) → Rb R H → n + (vnum x).length ≤ mostBytes → x < 9223372036854775808 →
    ∃ v' H' k, Ev (fun n m => f48_L0 real (C n) n m (.int .i64 (x : Int)) v H) (.tuple #[v', .int .i64 0], H') ∧ Acc R H' 1 v' k (B (l ++ vnum x)) ∧ Keep R H H' := by
  intro x
  induction x using Nat.strongRecOn with
  | _ x ih =>
    intro n H v l hA hN hb hx
    unfold vnum at hb ⊢
    by_cases hlt : x < 128
    · rw [if_pos hlt] at hb ⊢
      simp only [List.length_singleton] at hb
      obtain ⟨v', H', h1, h2, h3⟩ := byte_app (x := x) hA hN (by omega)
      refine ⟨v', H', _, ?_, h2, h3⟩
      refine Ev.step (fun n m => f48_L0.eq_2 _ _ _ _ _ _ _) ?_
      have hd : ¬ (x : Int) ≥ 128 := by omega
      have hm : (x : Int) % 256 = x := by omega
      simp only [real_b, real_i, b_geq, bnd_up, hd, decide_false, iff_f, cvI_u8, hm, bnd_some]
      rw [bld1 rfl rfl]
      simp only [bnd_some, h1]
      exact Ev.pure _
    · rw [if_neg hlt] at hb ⊢
      simp only [List.length_cons] at hb
      obtain ⟨v', H', h1, h2, h3⟩ := byte_app (x := x % 128 + 128) hA hN (by omega)
      obtain ⟨v2, H2, k, g1, g2, g3⟩ := ih (x / 128) (by omega) (n + 1) H' v' _ h2 (hN.mono h3.1) (by omega) (by omega)
      refine ⟨v2, H2, k, ?_, by simpa using g2, h3.trans g3⟩
      refine Ev.step (fun n m => f48_L0.eq_2 _ _ _ _ _ _ _) ?_
      have hd : (x : Int) ≥ 128 := by omega
      have ho : (BitVec.ofInt IntKind.u8.bits ((x : Int) % 256) ||| BitVec.ofInt IntKind.u8.bits 128).toNat = x % 128 + 128 := by
        have e : ((x : Int) % 256) = ((x % 256 : Nat) : Int) := by omega
        rw [e]
        refine (or128 ⟨x % 256, by omega⟩).trans ?_
        simp only; omega
      have hw : IntKind.u8.wrap ((x % 128 + 128 : Nat) : Int) = ((x % 128 + 128 : Nat) : Int) := wrap_u8 (by omega) (by omega)
      have hs : (x : Int).fdiv (2 ^ (min (7 : Int).toNat IntKind.i64.bits)) = ((x / 128 : Nat) : Int) := by
        have : (2 : Int) ^ (min (7 : Int).toNat IntKind.i64.bits) = 128 := by decide
        rw [this, Int.fdiv_eq_ediv_of_nonneg _ (by omega)]
        omega
      simp only [real_b, real_i, b_geq, bnd_up, hd, decide_true, iff_t, cvI_u8, bnd_some, b_or, ho, hw]
      rw [bld1 rfl rfl]
      simp only [bnd_some, h1, b_shr (show (0 : Int) ≤ 7 by decide), bnd_up, hs]
      exact g1
end
end Go.Eng
