/- Numbers are written. -/
import Derived.Test.YtjnpiaigiljpjaaKD
set_option linter.unusedVariables false
set_option linter.unusedSimpArgs false
namespace Go.Eng
open Go Go.Proofs

def okN (x : Int) : Bool := decide (0 ≤ x) && decide (x ≤ 9007199254740991)
def nb (x : Int) : List Nat := if okN x then vnum x.toNat else []
def nbs (xs : List Int) : List Nat := xs.flatMap nb
def eN (e : Int) (xs : List Int) : Int := if xs.all okN then e else 2
def I (xs : List Int) : List Value := xs.map (Value.int .i64)
theorem eN_cons (e : Int) (x : Int) (xs : List Int) : eN e (x :: xs) = eN (if okN x then e else 2) xs := by
  unfold eN
  by_cases h : okN x = true <;> simp [h]
theorem eN_append (e : Int) (xs ys : List Int) : eN e (xs ++ ys) = eN (eN e xs) ys := by
  unfold eN
  by_cases h : xs.all okN = true
  · simp only [List.all_append, h, Bool.true_and, if_true]
  · simp [List.all_append, h]
theorem nb_len (x : Int) : (nb x).length ≤ 9 := by
  unfold nb
  split
  · rename_i h
    simp only [okN, Bool.and_eq_true, decide_eq_true_eq] at h
    exact vnum_len9 (by omega)
  · simp
theorem nbs_append (xs ys : List Int) : nbs (xs ++ ys) = nbs xs ++ nbs ys := List.flatMap_append

/-- Both functions' answer to one number. -/
theorem num_any (x : Int) (H : Heap) : ∃ v H', Cl 48 [.int .i64 x] H (.tuple #[v, .int .i64 (if okN x then 0 else 2)]) H' ∧ Acc (all H) H' 1 v (nb x).length (B (nb x)) ∧ Keep (all H) H H' := by
  unfold nb
  by_cases h : okN x = true
  · simp only [h, if_true]
    simp only [okN, Bool.and_eq_true, decide_eq_true_eq] at h
    obtain ⟨v, H', k, h1, h2, h3⟩ := num_ok (x := x.toNat) (by omega) H
    have hk : k = (vnum x.toNat).length := by have := h2.len; simpa [B] using this.symm
    subst hk
    rw [show ((x.toNat : Nat) : Int) = x by omega] at h1
    exact ⟨v, H', h1, h2, h3⟩
  · have h' : okN x = false := by simpa using h
    simp only [h', Bool.false_eq_true, if_false]
    simp only [okN, Bool.and_eq_true, decide_eq_true_eq, not_and] at h
    exact ⟨_, H, num_bad (by omega) H, Acc.nil, Keep.refl _ _⟩
theorem rnum_any (x : Int) (H : Heap) : ∃ v H', Cl 47 [.int .i64 x] H (.tuple #[v, .int .i64 (if okN x then 0 else 2)]) H' ∧ Acc (all H) H' 1 v (nb x).length (B (nb x)) ∧ Keep (all H) H H' := by
  unfold nb
  by_cases h : okN x = true
  · simp only [h, if_true]
    simp only [okN, Bool.and_eq_true, decide_eq_true_eq] at h
    obtain ⟨v, H', k, h1, h2, h3⟩ := rnum_ok (x := x.toNat) (by omega) H
    have hk : k = (vnum x.toNat).length := by have := h2.len; simpa [B] using this.symm
    subst hk
    rw [show ((x.toNat : Nat) : Int) = x by omega] at h1
    exact ⟨v, H', h1, h2, h3⟩
  · have h' : okN x = false := by simpa using h
    simp only [h', Bool.false_eq_true, if_false]
    simp only [okN, Bool.and_eq_true, decide_eq_true_eq, not_and] at h
    exact ⟨_, H, rnum_bad (by omega) H, Acc.nil, Keep.refl _ _⟩

theorem extr0 {a b : Value} {H : Heap} : extr 0 (.tuple #[a, b]) H = some (a, H) := nr _
theorem extr1 {a b : Value} {H : Heap} : extr 1 (.tuple #[a, b]) H = some (b, H) := nr _
theorem St.more {R R' : Nat → Prop} {H : Heap} {p c : Value} {l : List Nat} (h : St R H p l c) (hM : ∀ b, R' b → b < H.n → R b) : St R' H p l c := by
  obtain ⟨kb, v, h1, h2, h3, h4, h5⟩ := h
  exact ⟨kb, v, h1, fun hr => h2 (hM kb hr h3), h3, h4, h5.more hM⟩

/-- R, and what has been made since. -/
def plus (R : Nat → Prop) (H H' : Heap) : Nat → Prop := fun b => R b ∨ (H.n ≤ b ∧ b < H'.n)
theorem plus_le {R : Nat → Prop} {H H' : Heap} : ∀ b, R b → plus R H H' b := fun _ h => .inl h
theorem Rb.plus {R : Nat → Prop} {H H' : Heap} (h : Rb R H) (hn : H.n ≤ H'.n) : Rb (plus R H H') H' := fun b hb => by
  rcases hb with hb | hb
  · exact Nat.lt_of_lt_of_le (h b hb) hn
  · exact hb.2
theorem St.plus {R : Nat → Prop} {H H' : Heap} {p c : Value} {l : List Nat} (h : St R H p l c) (hk : Keep (all H) H H') : St (plus R H H') H' p l c :=
  (h.more (R' := Eng.plus R H H') fun b hb hlt => by rcases hb with hb | hb <;> first | exact hb | omega).keep hk
theorem Acc.plus {R : Nat → Prop} {H H' : Heap} {sz n : Nat} {v : Value} {cs : List Value} (h : Acc (all H) H' sz v n cs) : Sl (plus R H H') H' sz v n cs := by
  rcases h with h | ⟨b, h1, h2, h3, h4, h5⟩
  · exact .inl h
  · refine .inr (.inr ⟨b, 0, none, n, _, h1, .inr ⟨Nat.le_of_not_lt h2, h3⟩, h4, by simp only; omega, Nat.le_refl _, ?_⟩)
    simp only [cut, List.drop_zero]
    rw [← h5, List.take_length]

theorem numbers_loop (R : Nat → Prop) (xs : List Int) (v9 : Value) (hlen : xs.length < 1000000000000) : ∀ (k i : Nat), i + k = xs.length → ∀ (H : Heap) (p : Value) (l : List Nat) (e : Int), St R H p l (.int .i64 e) → Rb R H → Sl R H 1 v9 xs.length (I xs) → l.length + 9 * k ≤ mostBytes →
    ∃ H', Ev (fun n m => f36_L0 real (AC n) n m p v9 (.int .i64 (xs.length : Int)) (.int .i64 (i : Int)) H) (p, H') ∧ St R H' p (l ++ nbs (xs.drop i)) (.int .i64 (eN e (xs.drop i))) ∧ Keep R H H' := by
  intro k
  induction k with
  | zero =>
    intro i hi H p l e hS hR hV hb
    have hi' : i = xs.length := by omega
    subst hi'
    refine ⟨H, ?_, by simpa [nbs, eN] using hS, Keep.refl _ _⟩
    refine Ev.step (fun n m => f36_L0.eq_2 _ _ _ _ _ _ _ _ _) ?_
    have hd : ¬ (xs.length : Int) < (xs.length : Int) := by omega
    simp only [real_b, real_i, b_lss, bnd_up, hd, decide_false, iff_f]
    exact Ev.pure _
  | succ k ih =>
    intro i hi H p l e hS hR hV hb
    have hlt : i < xs.length := by omega
    obtain ⟨x, hx⟩ : ∃ x, xs[i]? = some x := ⟨xs[i], List.getElem?_eq_getElem hlt⟩
    have hdrop : xs.drop i = x :: xs.drop (i + 1) := by
      rw [List.drop_eq_getElem_cons hlt]
      rw [List.getElem?_eq_getElem hlt] at hx
      rw [Option.some.inj hx]
    obtain ⟨q, q1, q2⟩ := hV.at1 (i := i) (x := .int .i64 x) (by simp [I, hx])
    obtain ⟨v, H1, n1, n2, n3⟩ := num_any x H
    have hS1 := hS.keep n3
    have hk1 : Keep R H H1 := n3.of_all hR
    have hR1 := hR.mono n3.1
    have hnb := nb_len x
    have hd : (i : Int) < (xs.length : Int) := by omega
    have rest : ∀ (H2 : Heap) (e2 : Int), St R H2 p l (.int .i64 e2) → Keep R H H2 → H1.n ≤ H2.n → addend 1 v H2 = some ((nb x).length, B (nb x)) → ∃ H', Ev (fun n m => f36_J1 real (AC n) n (f36_L0 real (AC n) n m) p v v9 (.int .i64 (xs.length : Int)) (.int .i64 (i : Int)) H2) (p, H') ∧ St R H' p (l ++ nbs (xs.drop i)) (.int .i64 (eN e2 (xs.drop (i + 1)))) ∧ Keep R H H' := by
      intro H2 e2 hS2 hk2 hn2 hv2
      obtain ⟨kb, w, rfl, o1, o2, o3, o4, o5, o6⟩ := hS2.op (hR.mono hk2.1)
      obtain ⟨v', H3, H4, a1, a2, a3, a4⟩ := o6 v (nb x) hv2 (by omega)
      obtain ⟨H', g1, g2, g3⟩ := ih (i + 1) (by omega) H4 _ _ _ a3 (hR.mono (hk2.trans a4).1) (hV.keep (hk2.trans a4)) (by simp only [List.length_append]; omega)
      refine ⟨H', ?_, ?_, (hk2.trans a4).trans g3⟩
      · have e1 : IntKind.i64.wrap ((i : Int) + 1) = ((i + 1 : Nat) : Int) := by rw [wrap_i64 (by omega) (by omega)]; omega
        simp only [f36_J1, real_b, nilC_ptr, bnd_some, fAddr_ptr, bnd_up, Nat.zero_add, o1, a1, a2, b_add, e1]
        exact g1
      · rw [hdrop]
        simpa [nbs] using g2
    have hv1 : addend 1 v H1 = some ((nb x).length, B (nb x)) := n2.sl.addend
    by_cases hok : okN x = true
    · obtain ⟨H', g1, g2, g3⟩ := rest H1 e hS1 hk1 (Nat.le_refl _) hv1
      refine ⟨H', ?_, ?_, g3⟩
      · refine Ev.step (fun n m => f36_L0.eq_2 _ _ _ _ _ _ _ _ _) ?_
        simp only [real_b, real_i, b_lss, bnd_up, hd, decide_true, iff_t, q1, q2, bnd_some]
        refine Ev.bnd (Ev.other n1) ?_
        simp only [extr0, extr1, bnd_some, hok, if_true, b_neq, bnd_up, bne_self_eq_false, iff_f]
        exact g1
      · rw [hdrop, eN_cons, hok, if_pos rfl]
        rw [hdrop] at g2
        exact g2
    · have hok' : okN x = false := by simpa using hok
      obtain ⟨kb, w, hp, o1, o2, o3, o4, o5, o6⟩ := (hS.plus n3).op (hR.plus n3.1)
      obtain ⟨H2, s1, s2, s3⟩ := o5 (.int .i64 2) rfl rfl
      have hv2 : addend 1 v H2 = some ((nb x).length, B (nb x)) := ((n2.plus (R := R)).keep s3).addend
      obtain ⟨H', g1, g2, g3⟩ := rest H2 2 (s2.more fun b hb _ => plus_le b hb) (hk1.trans (s3.mono plus_le)) s3.1 hv2
      refine ⟨H', ?_, ?_, g3⟩
      · refine Ev.step (fun n m => f36_L0.eq_2 _ _ _ _ _ _ _ _ _) ?_
        simp only [real_b, real_i, b_lss, bnd_up, hd, decide_true, iff_t, q1, q2, bnd_some]
        refine Ev.bnd (Ev.other n1) ?_
        subst hp
        simp only [extr0, extr1, bnd_some, hok', Bool.false_eq_true, if_false, b_neq, bnd_up, show ((2 : Int) != 0) = true from rfl, iff_t, nilC_ptr, fAddr_ptr, Nat.zero_add, s1]
        exact g1
      · rw [hdrop, eN_cons, hok']
        rw [hdrop] at g2
        exact g2
end Go.Eng
