/- A key that is written. -/
import Derived.Test.YtjnpiaigiljpjaaKC
set_option linter.unusedVariables false
set_option linter.unusedSimpArgs false
namespace Go.Eng
open Go Go.Proofs

abbrev ptr (b o : Nat) : Value := .pointer (some ⟨b, o, none⟩)
theorem fAddr_ptr {b o k : Nat} : fAddr k (ptr b o) = some (ptr b (o + k)) := nr _
theorem nilC_ptr {b o : Nat} {H : Heap} : nilC (ptr b o) H = some (ptr b o, H) := nr _
/-- What is written: bytes, and one cell more. -/
def St (R : Nat → Prop) (H : Heap) (p : Value) (l : List Nat) (c : Value) : Prop :=
  ∃ kb v, p = ptr kb 0 ∧ ¬ R kb ∧ kb < H.n ∧ H.get kb = some ⟨[v, c], 1, true⟩ ∧ Acc R H 1 v l.length (B l)
theorem St.keep {R : Nat → Prop} {H H' : Heap} {p c : Value} {l : List Nat} (h : St R H p l c) (hk : Keep (all H) H H') : St R H' p l c := by
  obtain ⟨kb, v, h1, h2, h3, h4, h5⟩ := h
  exact ⟨kb, v, h1, h2, Nat.lt_of_lt_of_le h3 hk.1, by rw [hk.2 kb h3]; exact h4, h5.keep hk⟩
theorem St.op {R : Nat → Prop} {H : Heap} {p c : Value} {l : List Nat} (h : St R H p l c) (hN : Rb R H) : ∃ kb v, p = ptr kb 0 ∧ ldC (ptr kb 0) H = some (v, H) ∧ ldC (ptr kb 1) H = some (c, H) ∧ lenS v = some (.int .i64 l.length) ∧ Acc R H 1 v l.length (B l) ∧
    (∀ c' : Value, c'.cells = #[c'] → Value.oneCell' c' = true → ∃ H', stV 1 (ptr kb 1) c' H = some (undef, H') ∧ St R H' p l c' ∧ Keep R H H') ∧
    (∀ x xs, addend 1 x H = some (xs.length, B xs) → l.length + xs.length ≤ mostBytes → ∃ v' H1 H2, app 1 1 v x H = some (v', H1) ∧ stV 1 (ptr kb 0) v' H1 = some (undef, H2) ∧ St R H2 p (l ++ xs) c ∧ Keep R H H2) := by
  obtain ⟨kb, v, rfl, h2, h3, h4, h5⟩ := h
  -- the bytes lie in another block
  have hne : ∀ b n, v = .slice (some ⟨b, 0, none⟩) n n → H.get b = some ⟨B l, 1, true⟩ → b ≠ kb := fun b n hv hb he => by
    subst he
    rw [h4] at hb
    simp only [Option.some.injEq, Blk.mk.injEq, and_true] at hb
    match l, hb with
    | [], hb => simp [B] at hb
    | [a], hb => simp [B] at hb
    | a :: a' :: r, hb => simp [B] at hb; rw [hv] at hb; cases hb.1
  refine ⟨kb, v, rfl, by simp [ldC, h4], by simp [ldC, h4], h5.sl.lenS, h5, fun c' hc h1 => ?_, fun x xs hx hb => ?_⟩
  · refine ⟨H.upd kb (some ⟨[v, c'], 1, true⟩), by simp [stV, h4, hc, h1, splice], ⟨kb, v, rfl, h2, by simpa [Heap.upd] using h3, by simp [Heap.upd], ?_⟩, Keep.upd h2⟩
    rcases h5 with ⟨q1, q2, q3⟩ | ⟨b, q1, q2, q3, q4, q5⟩
    · exact .inl ⟨q1, q2, q3⟩
    · have := hne b _ q1 q4
      exact .inr ⟨b, q1, q2, by simpa [Heap.upd] using q3, by simp [Heap.upd, this, q4], q5⟩
  · obtain ⟨v', H1, g1, g2, g3⟩ := h5.app (by_ := 1) hN hx (by simp [B]) (by omega)
    have hk1 : H1.get kb = some ⟨[v, c], 1, true⟩ := by
      -- append gives up the old block of the bytes alone
      have : ∀ b, (∀ n, v = .slice (some ⟨b, 0, none⟩) n n → False) → b < H.n → H1.get b = H.get b := fun b hb hlt => by
        unfold Eng.app at g1
        rcases h5 with ⟨rfl, q2, q3⟩ | ⟨b', rfl, q2, q3, q4, q5⟩
        · simp only [hx] at g1
          split at g1
          · simp only [Option.some.injEq, Prod.mk.injEq] at g1; rw [← g1.2]
          · split at g1
            · cases g1
            · simp at g1; rw [← g1.2]; simp only [Heap.push]; rw [if_neg (by omega)]
        · have hbb : b ≠ b' := fun he => hb _ (by rw [he])
          simp only [hx] at g1
          split at g1
          · simp only [Option.some.injEq, Prod.mk.injEq] at g1; rw [← g1.2]
          · split at g1
            · cases g1
            · simp only [q4] at g1
              simp [q5] at g1
              rw [← g1.2, push_lt (by rw [upd_n]; exact hlt), upd_ne hbb]
      rw [this kb (fun n hv => ?_) h3, h4]
      rcases h5 with ⟨q1, q2, q3⟩ | ⟨b, q1, q2, q3, q4, q5⟩
      · rw [q1] at hv; cases hv
      · rw [q1] at hv
        injection hv with e1; injection e1 with e1; injection e1 with e1
        exact hne b _ q1 q4 e1
    have hone : Value.oneCell' v' = true ∧ v'.cells = #[v'] := by
      rcases g2 with ⟨rfl, _⟩ | ⟨b, rfl, _⟩ <;> exact ⟨rfl, rfl⟩
    have hne' : ∀ b n, v' = .slice (some ⟨b, 0, none⟩) n n → H1.get b = some ⟨B l ++ B xs, 1, true⟩ → b ≠ kb := fun b n hv hb he => by
      subst he
      rw [hk1, ← B_append] at hb
      simp only [Option.some.injEq, Blk.mk.injEq, and_true] at hb
      generalize l ++ xs = ys at hb
      match ys, hb with
      | [], hb => simp [B] at hb
      | [a], hb => simp [B] at hb
      | a :: a' :: r, hb =>
        simp [B] at hb
        rcases h5 with ⟨q1, _⟩ | ⟨b, q1, _⟩
        · rw [q1] at hb; cases hb.1
        · rw [q1] at hb; cases hb.1
    refine ⟨v', H1, H1.upd kb (some ⟨[v', c], 1, true⟩), g1, by simp [stV, hk1, hone.1, hone.2, splice], ⟨kb, v', rfl, h2, by have := g3.1; simp [Heap.upd]; omega, by simp [Heap.upd], ?_⟩, g3.trans (Keep.upd h2)⟩
    rw [List.length_append, B_append]
    rcases g2 with ⟨q1, q2, q3⟩ | ⟨b, q1, q2, q3, q4, q5⟩
    · exact .inl ⟨q1, q2, q3⟩
    · have := hne' b _ q1 q4
      exact .inr ⟨b, q1, q2, by simpa [Heap.upd] using q3, by simp [Heap.upd, this, q4], q5⟩
end Go.Eng
