/- Two keys of files. -/
import Derived.Test.YtjnpiaigiljpjaaKH
set_option linter.unusedVariables false
set_option linter.unusedSimpArgs false
namespace Go.Eng
open Go Go.Proofs

theorem awake_ok (H : Heap) : Cl 18 [] H (.bool true) H := by
  refine ⟨1, fun n m hn _ => ?_⟩
  obtain ⟨k, rfl⟩ : ∃ k, n = k + 1 := ⟨n - 1, by omega⟩
  kernel_rfl
theorem wd_u {w : Bool} : wd undef w = false := nr _
theorem b_beql {P : Program} {t : TypeId} {a b : Bool} (h : P.underlying t = some .bool) : binB P .eql t (.bool a) (.bool b) = some (.bool (a == b)) := by
  simp [binB, eqV, h]

theorem vnum_pref : ∀ (m n : Nat) (a b : List Nat), vnum m ++ a = vnum n ++ b → m = n ∧ a = b := by
  intro m
  induction m using Nat.strongRecOn with
  | _ m ih =>
    intro n a b h
    rw [vnum, vnum.eq_1 n] at h
    by_cases hm : m < 128 <;> by_cases hn : n < 128
    · rw [if_pos hm, if_pos hn] at h
      simp only [List.cons_append, List.nil_append, List.cons.injEq] at h
      exact h
    · rw [if_pos hm, if_neg hn] at h
      simp only [List.cons_append, List.nil_append, List.cons.injEq] at h
      omega
    · rw [if_neg hm, if_pos hn] at h
      simp only [List.cons_append, List.nil_append, List.cons.injEq] at h
      omega
    · rw [if_neg hm, if_neg hn] at h
      simp only [List.cons_append, List.cons.injEq] at h
      obtain ⟨h1, h2⟩ := h
      obtain ⟨h3, h4⟩ := ih (m / 128) (by omega) (n / 128) a b h2
      exact ⟨by omega, h4⟩
theorem nb_nat {m : Nat} (h : m ≤ 9007199254740991) : nb (m : Int) = vnum m := by
  have : okN (m : Int) = true := by simp [okN]; omega
  simp [nb, this]
theorem nb_pref {m n : Nat} (hm : m ≤ 9007199254740991) (hn : n ≤ 9007199254740991) {a b : List Nat} (h : nb (m : Int) ++ a = nb (n : Int) ++ b) : m = n ∧ a = b := by
  rw [nb_nat hm, nb_nat hn] at h
  exact vnum_pref m n a b h
theorem tb_strOf {d : List Nat} (h : ∀ x ∈ d, x < 256) : tb (strOf d) = nb (d.length : Int) ++ d := by rw [tb, sb_strOf h, strOf_size]
theorem fkey_inj {a b : List Nat} (ha : ∀ x ∈ a, x < 256) (hb : ∀ x ∈ b, x < 256) (la : a.length ≤ 100000000000) (lb : b.length ≤ 100000000000) (h : fkey a = fkey b) : a = b := by
  rw [fkey, fkey, tb_strOf ha, tb_strOf hb] at h
  exact (nb_pref (by omega) (by omega) (List.append_cancel_left h)).2
theorem fkey_len {a : List Nat} (ha : ∀ x ∈ a, x < 256) : (fkey a).length ≤ a.length + 18 := by
  rw [fkey, tb_strOf ha]
  have h1 := nb_len 1
  have h2 := nb_len (a.length : Int)
  simp only [List.length_append]
  omega

theorem bytes_law {H : Heap} {v1 v2 : Value} {a b : List Nat} {n1 n2 : Nat} (h1 : Sl (all H) H 1 v1 n1 (B a)) (h2 : Sl (all H) H 1 v2 n2 (B b)) (ha : ∀ x ∈ a, x < 256) (hb : ∀ x ∈ b, x < 256) (la : a.length ≤ 100000000000) (lb : b.length ≤ 100000000000) :
    ∃ H', Cl 4 [v1, v2] H (.bool true) H' ∧ Keep (all H) H H' := by
  have e1 := h1.blen
  have e2 := h2.blen
  obtain ⟨w1, H1, f1, f2, f3⟩ := file_ok h1 la
  obtain ⟨w2, H2, g1, g2, g3⟩ := file_ok ((h2.keep f3).mono fun b hb => Nat.lt_of_lt_of_le hb f3.1) lb
  refine ⟨H2, ?_, f3.trans (g3.mono fun b hb => Nat.lt_of_lt_of_le hb f3.1)⟩
  refine Ev.enter (fun n => f4_eq rfl n _ _ _) ?_
  simp only [f4, real_b, real_i]
  refine Ev.callC f1 ?_
  simp only [extr0, extr1, bnd_some]
  refine Ev.callC g1 ?_
  have la' := fkey_len ha
  have lb' := fkey_len hb
  by_cases ka : 65536 < (fkey a).length
  · have ea : endE 0 (fkey a) = 5 := by simp [endE, ka]
    have ga : ((n1 : Nat) : Int) > 65000 := by omega
    by_cases kb : 65536 < (fkey b).length
    · have eb : endE 0 (fkey b) = 5 := by simp [endE, kb]
      have gb : ((n2 : Nat) : Int) > 65000 := by omega
      simp only [extr0, extr1, bnd_some, ea, eb, b_neq, b_eql, bnd_up, wd_b, h1.lenS, h2.lenS, b_gtr, ga, gb, decide_true, show ((5 : Int) != 0) = true from rfl, show ((5 : Int) == 0) = false from rfl, show ((5 : Int) == 5) = true from rfl,
        show (true == false) = false from rfl, show (false == false) = true from rfl, show (true == true) = true from rfl, show (false == true) = false from rfl, gd_t, gd_f, pick_t, pick_f, iff_t, iff_f]
      refine Ev.callC (awake_ok _) ?_
      exact Ev.pure _
    · have eb : endE 0 (fkey b) = 0 := by simp [endE, kb]
      simp only [extr0, extr1, bnd_some, ea, eb, b_neq, b_eql, bnd_up, wd_b, h1.lenS, h2.lenS, b_gtr, ga, decide_true, show ((5 : Int) != 0) = true from rfl, show ((5 : Int) == 0) = false from rfl, show ((5 : Int) == 5) = true from rfl, show ((0 : Int) == 0) = true from rfl,
        show (true == false) = false from rfl, show (false == false) = true from rfl, show (true == true) = true from rfl, show (false == true) = false from rfl, gd_t, gd_f, pick_t, pick_f, iff_t, iff_f, wd_u]
      refine Ev.callC (awake_ok _) ?_
      exact Ev.pure _
  · have ea : endE 0 (fkey a) = 0 := by simp [endE, ka]
    by_cases kb : 65536 < (fkey b).length
    · have eb : endE 0 (fkey b) = 5 := by simp [endE, kb]
      have gb : ((n2 : Nat) : Int) > 65000 := by omega
      simp only [extr0, extr1, bnd_some, ea, eb, b_neq, b_eql, bnd_up, wd_b, h1.lenS, h2.lenS, b_gtr, gb, decide_true, show ((0 : Int) != 0) = false from rfl, show ((5 : Int) != 0) = true from rfl, show ((5 : Int) == 0) = false from rfl, show ((5 : Int) == 5) = true from rfl, show ((0 : Int) == 0) = true from rfl,
        show (true == false) = false from rfl, show (false == false) = true from rfl, show (true == true) = true from rfl, show (false == true) = false from rfl, gd_t, gd_f, pick_t, pick_f, iff_t, iff_f, wd_u]
      refine Ev.callC (awake_ok _) ?_
      exact Ev.pure _
    · have eb : endE 0 (fkey b) = 0 := by simp [endE, kb]
      have la2 : endL 0 (fkey a) = fkey a := by simp [endL, ka]
      have lb2 : endL 0 (fkey b) = fkey b := by simp [endL, kb]
      simp only [extr0, extr1, bnd_some, ea, eb, b_neq, bnd_up, wd_b, show ((0 : Int) != 0) = false from rfl, show (false == false) = true from rfl, gd_t, pick_f, iff_f]
      rw [la2] at f2
      rw [lb2] at g2
      have s1 : Sl (all H2) H2 1 w1 (fkey a).length (B (fkey a)) := (f2.sl.keep g3).mono fun b hb => Nat.lt_of_lt_of_le hb g3.1
      refine Ev.callC (eq_ok s1 g2.sl (by omega)) ?_
      have t1 : Sl (all H) H2 1 v1 n1 (B a) := h1.keep (f3.trans (g3.mono fun b hb => Nat.lt_of_lt_of_le hb f3.1))
      have t2 : Sl (all H) H2 1 v2 n2 (B b) := h2.keep (f3.trans (g3.mono fun b hb => Nat.lt_of_lt_of_le hb f3.1))
      refine Ev.callC (eq_ok t1 t2 (by omega)) ?_
      have hiff : (decide (fkey a = fkey b) == decide (a = b)) = true := by
        by_cases hab : a = b
        · subst hab; simp
        · have : fkey a ≠ fkey b := fun h => hab (fkey_inj ha hb la lb h)
          simp [hab, this]
      simp only [b_beql Try.underlying4, bnd_up, hiff, wd_b, show (true == true) = true from rfl, gd_t]
      refine Ev.callC (awake_ok _) ?_
      exact Ev.pure _
end Go.Eng
