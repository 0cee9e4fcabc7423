/- Bytes: copied, held against each other; a key's kind. -/
import Derived.Test.YtjnpiaigiljpjaaKG
set_option linter.unusedVariables false
set_option linter.unusedSimpArgs false
namespace Go.Eng
open Go Go.Proofs

theorem drop_at {α : Type} {l : List α} {i : Nat} (h : i < l.length) : ∃ x, l[i]? = some x ∧ l.drop i = x :: l.drop (i + 1) :=
  ⟨l[i], List.getElem?_eq_getElem h, List.drop_eq_getElem_cons h⟩
theorem B_at {l : List Nat} {i x : Nat} (h : l[i]? = some x) : (B l)[i]? = some (.int .u8 (x : Int)) := by simp [B, h]
theorem Sl.blen {R : Nat → Prop} {H : Heap} {v : Value} {n : Nat} {l : List Nat} (h : Sl R H 1 v n (B l)) : n = l.length := by have := h.len; simpa [B] using this.symm
theorem eq_loop {R : Nat → Prop} {H : Heap} {v1 v2 : Value} {a b : List Nat} {n1 n2 : Nat} (h1 : Sl R H 1 v1 n1 (B a)) (h2 : Sl R H 1 v2 n2 (B b)) (hl : a.length = b.length) (hb : a.length < 9223372036854775807) :
    ∀ (k i : Nat), i + k = a.length → Ev (fun n m => f15_L0 real (AC n) n m v1 v2 (.int .i64 (i : Int)) H) (.bool (decide (a.drop i = b.drop i)), H) := by
  have e1 := h1.blen
  intro k
  induction k with
  | zero =>
    intro i hi
    refine Ev.step (fun n m => f15_L0.eq_2 _ _ _ _ _ _ _ _) ?_
    have hd : ¬ (i : Int) < (n1 : Int) := by omega
    have e : decide (a.drop i = b.drop i) = true := by
      rw [List.drop_eq_nil_of_le (by omega), List.drop_eq_nil_of_le (by omega)]; simp
    simp only [real_b, real_i, h1.lenS, b_lss, bnd_up, hd, decide_false, iff_f, e]
    exact Ev.pure _
  | succ k ih =>
    intro i hi
    obtain ⟨x, x1, x2⟩ := drop_at (l := a) (i := i) (by omega)
    obtain ⟨y, y1, y2⟩ := drop_at (l := b) (i := i) (by omega)
    obtain ⟨p, p1, p2⟩ := h1.at1 (B_at x1)
    obtain ⟨q, q1, q2⟩ := h2.at1 (B_at y1)
    refine Ev.step (fun n m => f15_L0.eq_2 _ _ _ _ _ _ _ _) ?_
    have hd : (i : Int) < (n1 : Int) := by omega
    have hw : IntKind.i64.wrap ((i : Int) + 1) = ((i + 1 : Nat) : Int) := by rw [wrap_i64 (by omega) (by omega)]; omega
    by_cases hxy : x = y
    · subst hxy
      simp only [real_b, real_i, real_c, chk_t, h1.lenS, b_lss, bnd_up, hd, decide_true, iff_t, p1, p2, q1, q2, bnd_some, b_neq, bne_self_eq_false, iff_f, b_add, hw]
      have := ih (i + 1) (by omega)
      rw [x2, y2]
      simpa using this
    · have hn : ((x : Int) != (y : Int)) = true := by simp; omega
      simp only [real_b, real_i, real_c, chk_t, h1.lenS, b_lss, bnd_up, hd, decide_true, iff_t, p1, p2, q1, q2, bnd_some, b_neq, hn]
      rw [x2, y2]
      have : decide (x :: a.drop (i + 1) = y :: b.drop (i + 1)) = false := by simp [hxy]
      rw [this]
      exact Ev.pure _
theorem eq_ok {R : Nat → Prop} {H : Heap} {v1 v2 : Value} {a b : List Nat} {n1 n2 : Nat} (h1 : Sl R H 1 v1 n1 (B a)) (h2 : Sl R H 1 v2 n2 (B b)) (hb : a.length < 9223372036854775807) : Cl 15 [v1, v2] H (.bool (decide (a = b))) H := by
  have e1 := h1.blen
  have e2 := h2.blen
  refine Ev.enter (fun n => f15_eq rfl n _ _ _) ?_
  by_cases hl : a.length = b.length
  · have hn : ((n1 : Int) != (n2 : Int)) = false := by simp; omega
    simp only [f15, real_b, real_i, h1.lenS, h2.lenS, bnd_up, b_neq, hn, iff_f]
    have := (eq_loop h1 h2 hl hb a.length 0 (by omega)).loop
    simpa using this
  · have hn : ((n1 : Int) != (n2 : Int)) = true := by simp; omega
    simp only [f15, real_b, real_i, h1.lenS, h2.lenS, bnd_up, b_neq, hn, iff_t]
    have : decide (a = b) = false := by
      simp; intro h; exact hl (by rw [h])
    rw [this]
    exact Ev.pure _

theorem copy_ok {H : Heap} {v : Value} {d : List Nat} {n : Nat} (h : Sl (all H) H 1 v n (B d)) (hb : d.length ≤ mostBytes) : ∃ w H', Cl 10 [v] H w H' ∧ Acc (all H) H' 1 w d.length (B d) ∧ Keep (all H) H H' := by
  have e := h.blen
  obtain ⟨w, H', g1, g2, g3⟩ := (Acc.nil (R := all H) (H := H) (sz := 1)).app (by_ := 1) (Rb.all H) h.addend h.len (by omega)
  refine ⟨w, H', ?_, by simpa [e] using g2, g3⟩
  refine Ev.enter (fun n => f10_eq rfl n _ _) ?_
  simp only [f10, real_b, g1, bnd_some]
  exact Ev.pure _

def kindOfKey (l : List Nat) : Int := match l with | [] => 0 | x :: _ => if 4 < x then 0 else x
theorem wrap_small {x : Nat} (h : x < 256) : IntKind.i64.wrap (x : Int) = (x : Int) := wrap_i64 (by omega) (by omega)
theorem kind_ok {R : Nat → Prop} {H : Heap} {v : Value} {l : List Nat} {n : Nat} (h : Sl R H 1 v n (B l)) (hb : ∀ x ∈ l, x < 256) : Cl 16 [v] H (.int .i64 (kindOfKey l)) H := by
  have e := h.blen
  refine Ev.enter (fun n => f16_eq rfl n _ _) ?_
  cases l with
  | nil =>
    subst e
    simp only [f16, real_b, real_i, h.lenS, bnd_up, b_eql, wd_b, List.length_nil, show (((0 : Nat) : Int) == 0) = true from rfl, show (true == false) = false from rfl, gd_f, bnd_some, pick_t, iff_t]
    exact Ev.pure _
  | cons x l =>
    have hx := hb x (by simp)
    have hn : ((n : Int) == 0) = false := by simp at e ⊢; omega
    obtain ⟨p, p1, p2⟩ := h.at1 (i := 0) (x := .int .u8 (x : Int)) (by simp [B])
    simp only [Int.natCast_zero, show ((0 : Nat) : Int) = 0 from rfl] at p1
    have hcv : ∀ H, cvI .i64 (.int .u8 (x : Int)) H = some (.int .i64 (x : Int), H) := fun H => by simp only [cvI, wrap_small hx]
    by_cases h4 : 4 < x
    · have hd : (x : Int) > 4 := by omega
      simp only [f16, real_b, real_i, h.lenS, bnd_up, b_eql, wd_b, hn, show (false == false) = true from rfl, gd_t, bnd_some, p1, p2, hcv, b_gtr, hd, decide_true, pick_f, iff_t, kindOfKey, h4, if_true]
      exact Ev.pure _
    · have hd : ¬ (x : Int) > 4 := by omega
      simp only [f16, real_b, real_i, h.lenS, bnd_up, b_eql, wd_b, hn, show (false == false) = true from rfl, gd_t, bnd_some, p1, p2, hcv, b_gtr, hd, decide_false, pick_f, iff_f, kindOfKey, h4, if_false]
      exact Ev.pure _
theorem rkind_ok {R : Nat → Prop} {H : Heap} {v : Value} {l : List Nat} {n : Nat} (h : Sl R H 1 v n (B l)) (hb : ∀ x ∈ l, x < 256) : Cl 17 [v] H (.int .i64 (kindOfKey l)) H := by
  have e := h.blen
  refine Ev.enter (fun n => f17_eq rfl n _ _) ?_
  cases l with
  | nil =>
    subst e
    simp only [f17, real_b, real_i, h.lenS, bnd_up, b_eql, wd_b, List.length_nil, show (((0 : Nat) : Int) == 0) = true from rfl, show (true == false) = false from rfl, gd_f, bnd_some, pick_t, iff_t]
    exact Ev.pure _
  | cons x l =>
    have hx := hb x (by simp)
    have hn : ((n : Int) == 0) = false := by simp at e ⊢; omega
    obtain ⟨p, p1, p2⟩ := h.at1 (i := 0) (x := .int .u8 (x : Int)) (by simp [B])
    simp only [Int.natCast_zero, show ((0 : Nat) : Int) = 0 from rfl] at p1
    have hcv : ∀ H, cvI .i64 (.int .u8 (x : Int)) H = some (.int .i64 (x : Int), H) := fun H => by simp only [cvI, wrap_small hx]
    by_cases h4 : 4 < x
    · have hd : (x : Int) > 4 := by omega
      simp only [f17, real_b, real_i, h.lenS, bnd_up, b_eql, wd_b, hn, show (false == false) = true from rfl, gd_t, bnd_some, p1, p2, hcv, b_gtr, hd, decide_true, pick_f, iff_t, kindOfKey, h4, if_true]
      exact Ev.pure _
    · have hd : ¬ (x : Int) > 4 := by omega
      simp only [f17, real_b, real_i, h.lenS, bnd_up, b_eql, wd_b, hn, show (false == false) = true from rfl, gd_t, bnd_some, p1, p2, hcv, b_gtr, hd, decide_false, pick_f, iff_f, kindOfKey, h4, if_false]
      exact Ev.pure _
end Go.Eng
