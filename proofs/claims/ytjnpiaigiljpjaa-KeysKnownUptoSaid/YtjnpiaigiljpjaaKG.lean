/- The reference's writer; files' keys. -/
import Derived.Test.YtjnpiaigiljpjaaKF
set_option linter.unusedVariables false
set_option linter.unusedSimpArgs false
namespace Go.Eng
open Go Go.Proofs

theorem number_ok {R : Nat → Prop} {H : Heap} {p : Value} {l : List Nat} {bad : Bool} {x : Int} (hS : St R H p l (.bool bad)) (hR : Rb R H) (hb : l.length + 9 ≤ mostBytes) :
    ∃ H', Cl 33 [p, .int .i64 x] H (.tuple #[]) H' ∧ St R H' p (l ++ nb x) (.bool (bad || !okN x)) ∧ Keep R H H' := by
  obtain ⟨v, H1, n1, n2, n3⟩ := rnum_any x H
  have hk1 : Keep R H H1 := n3.of_all hR
  have hnb := nb_len x
  have rest : ∀ (H2 : Heap) (b2 : Bool), St (plus R H H1) H2 p l (.bool b2) → Keep (plus R H H1) H1 H2 → ∃ H', Ev (fun n m => f33_J1 real (AC n) n p v H2) (.tuple #[], H') ∧ St R H' p (l ++ nb x) (.bool b2) ∧ Keep R H H' := by
    intro H2 b2 hS2 hk2
    obtain ⟨kb, w, rfl, o1, o2, o3, o4, o5, o6⟩ := hS2.op ((hR.plus n3.1).mono hk2.1)
    obtain ⟨v', H3, H4, a1, a2, a3, a4⟩ := o6 v (nb x) ((n2.plus (R := R)).keep hk2).addend (by omega)
    refine ⟨H4, ?_, a3.more fun b hb _ => plus_le b hb, hk1.trans ((hk2.trans a4).mono plus_le)⟩
    simp only [f33_J1, real_b, nilC_ptr, bnd_some, fAddr_ptr, bnd_up, Nat.zero_add, o1, a1, a2]
    exact Ev.pure _
  have hS1 := hS.plus n3
  by_cases hok : okN x = true
  · obtain ⟨H', g1, g2, g3⟩ := rest H1 bad hS1 (Keep.refl _ _)
    refine ⟨H', ?_, by simpa [hok] using g2, g3⟩
    refine Ev.enter (fun n => f33_eq rfl n _ _ _) ?_
    simp only [f33, real_b, real_i]
    refine Ev.callC n1 ?_
    simp only [extr0, extr1, bnd_some, hok, if_true, b_neq, bnd_up, bne_self_eq_false, iff_f]
    exact g1
  · have hok' : okN x = false := by simpa using hok
    obtain ⟨kb, w, rfl, o1, o2, o3, o4, o5, o6⟩ := hS1.op (hR.plus n3.1)
    obtain ⟨H2, s1, s2, s3⟩ := o5 (.bool true) rfl rfl
    obtain ⟨H', g1, g2, g3⟩ := rest H2 true s2 s3
    refine ⟨H', ?_, by simpa [hok'] using g2, g3⟩
    refine Ev.enter (fun n => f33_eq rfl n _ _ _) ?_
    simp only [f33, real_b, real_i]
    refine Ev.callC n1 ?_
    simp only [extr0, extr1, bnd_some, hok', Bool.false_eq_true, if_false, b_neq, bnd_up, show ((2 : Int) != 0) = true from rfl, iff_t, nilC_ptr, fAddr_ptr, Nat.zero_add, s1]
    exact g1

theorem rtext_ok {R : Nat → Prop} {H : Heap} {p : Value} {l : List Nat} {bad : Bool} {s : ByteArray} (hS : St R H p l (.bool bad)) (hR : Rb R H) (hb : l.length + 9 + s.size ≤ 1000000000000) :
    ∃ H', Cl 34 [p, .string s] H (.tuple #[]) H' ∧ St R H' p (l ++ tb s) (.bool bad) ∧ Keep R H H' := by
  have hmb : mostBytes = 140737488355328 := rfl
  obtain ⟨H1, h1, h2, h3⟩ := number_ok (x := (s.size : Int)) hS hR (by omega)
  have hok : okN (s.size : Int) = true := by simp [okN]; omega
  have hn := nb_len (s.size : Int)
  obtain ⟨kb, w, rfl, o1, o2, o3, o4, o5, o6⟩ := h2.op (hR.mono h3.1)
  obtain ⟨v', H2, H3, a1, a2, a3, a4⟩ := o6 (.string s) (sb s) addend_str (by simp only [List.length_append, sb_len]; omega)
  refine ⟨H3, ?_, by simpa [tb, hok] using a3, h3.trans a4⟩
  refine Ev.enter (fun n => f34_eq rfl n _ _ _) ?_
  simp only [f34, real_b, lenStr, bnd_up]
  refine Ev.callC h1 ?_
  simp only [nilC_ptr, bnd_some, fAddr_ptr, bnd_up, Nat.zero_add, o1, a1, a2]
  exact Ev.pure _

theorem rends_ok {R : Nat → Prop} {H : Heap} {p : Value} {l : List Nat} {bad : Bool} (hS : St R H p l (.bool bad)) (hR : Rb R H) (hl : l.length < 9223372036854775808) :
    ∃ v, Cl 35 [p] H (.tuple #[v, .int .i64 (endE (if bad then 2 else 0) l)]) H ∧ Acc R H 1 v (endL (if bad then 2 else 0) l).length (B (endL (if bad then 2 else 0) l)) := by
  obtain ⟨kb, w, rfl, o1, o2, o3, o4, o5, o6⟩ := hS.op hR
  unfold endL endE
  cases bad with
  | false =>
    by_cases hlen : 65536 < l.length
    · simp only [Bool.false_eq_true, if_false, if_true, if_pos hlen]
      refine ⟨.slice none 0 0, ?_, Acc.nil⟩
      refine Ev.enter (fun n => f35_eq rfl n _ _) ?_
      have hd : (l.length : Int) > 65536 := by omega
      simp only [f35, real_b, real_i, nilC_ptr, bnd_some, fAddr_ptr, bnd_up, Nat.zero_add, o1, o2, o3, iff_f, b_gtr, hd, decide_true, iff_t]
      exact Ev.pure _
    · simp only [Bool.false_eq_true, if_false, if_true, if_neg hlen]
      refine ⟨w, ?_, o4⟩
      refine Ev.enter (fun n => f35_eq rfl n _ _) ?_
      have hd : ¬ (l.length : Int) > 65536 := by omega
      simp only [f35, real_b, real_i, nilC_ptr, bnd_some, fAddr_ptr, bnd_up, Nat.zero_add, o1, o2, o3, iff_f, b_gtr, hd, decide_false]
      exact Ev.pure _
  | true =>
    simp only [if_true, show ((2 : Int) = 0) = False by simp, if_false]
    refine ⟨.slice none 0 0, ?_, Acc.nil⟩
    refine Ev.enter (fun n => f35_eq rfl n _ _) ?_
    simp only [f35, real_b, real_i, nilC_ptr, bnd_some, fAddr_ptr, bnd_up, Nat.zero_add, o1, o2, o3, iff_t]
    exact Ev.pure _

/-- The reference's writer begins. -/
theorem rbegin (H : Heap) : ∃ H', bld [.slice none 0 0, .bool false] [] H = some (.agg #[.slice none 0 0, .bool false], H) ∧ newV (Value.cells (.agg #[.slice none 0 0, .bool false])).toList H = some (ptr H.n 0, H') ∧ St (all H) H' (ptr H.n 0) [] (.bool false) ∧ Keep (all H) H H' :=
  ⟨H.push ⟨[.slice none 0 0, .bool false], 1, true⟩, rfl, rfl, ⟨H.n, .slice none 0 0, rfl, Nat.lt_irrefl _, by simp [push_n], push_self, Acc.nil⟩, Keep.push (Rb.all H)⟩

/-! ### bytes as a string -/
def strOf (d : List Nat) : ByteArray := ⟨(d.map UInt8.ofNat).toArray⟩
theorem sb_strOf {d : List Nat} (h : ∀ x ∈ d, x < 256) : sb (strOf d) = d := by
  unfold sb strOf
  simp only [List.map_map]
  conv => rhs; rw [← List.map_id d]
  apply List.map_congr_left
  intro x hx
  simp [UInt8.toNat_ofNat, Nat.mod_eq_of_lt (h x hx)]
theorem strOf_size {d : List Nat} : (strOf d).size = d.length := by
  show (d.map UInt8.ofNat).toArray.size = _
  simp
theorem bytes_B : ∀ (d : List Nat), (B d).mapM byteOf = some (d.map UInt8.ofNat)
  | [] => rfl
  | x :: d => by
    have := bytes_B d
    simp only [B] at this
    simp only [B, List.map_cons, List.mapM_cons, byteOf, Option.bind_eq_bind, Option.bind_some, this]
    simp
theorem toStr_sl {R : Nat → Prop} {H : Heap} {v : Value} {n : Nat} {d : List Nat} (h : Sl R H 1 v n (B d)) : toStr v H = some (.string (strOf d), H) := by
  rcases h with ⟨rfl, rfl, h⟩ | ⟨b, o, sp, cap, rfl, h2, rfl, h⟩ | ⟨b, o, sp, cap, blk, rfl, h2, h3, h4, _, h5⟩
  · have : d = [] := by cases d with | nil => rfl | cons a l => simp [B] at h
    subst this
    rfl
  · have : d = [] := by cases d with | nil => rfl | cons a l => simp [B] at h
    subst this
    rfl
  · by_cases hn : n = 0
    · subst hn
      have : d = [] := by cases d with | nil => rfl | cons a l => simp [B, cut] at h5
      subst this
      rfl
    · simp only [toStr, if_neg hn, h3]
      rw [if_pos (by omega)]
      rw [Nat.mul_one] at h5
      rw [h5, bytes_B]
      rfl
theorem Sl.blk {R : Nat → Prop} {H H' : Heap} {v : Value} {sz n : Nat} {cs : List Value} (h : Sl R H sz v n cs) (hk : Keep R H H') : sameBlk H H' (blkOf v) = true := by
  refine sameBlk_of fun c hc => ?_
  rcases h with ⟨rfl, rfl, rfl⟩ | ⟨b, o, sp, cap, rfl, h2, _⟩ | ⟨b, o, sp, cap, blk, rfl, h2, _⟩
  · simp [blkOf] at hc
  · simp [blkOf] at hc; subst hc; exact hk.2 b h2
  · simp [blkOf] at hc; subst hc; exact hk.2 b h2

def fkey (d : List Nat) : List Nat := nb 1 ++ tb (strOf d)
theorem file_ok {H : Heap} {v : Value} {n : Nat} {d : List Nat} (h : Sl (all H) H 1 v n (B d)) (hd : d.length ≤ 100000000000) :
    ∃ w H', Cl 11 [v] H (.tuple #[w, .int .i64 (endE 0 (fkey d))]) H' ∧ Acc (all H) H' 1 w (endL 0 (fkey d)).length (B (endL 0 (fkey d))) ∧ Keep (all H) H H' := by
  obtain ⟨p, H1, b1, b2, b3⟩ := begin_ok H 1
  have h9 := nb_len 1
  have he : eN 0 [1] = 0 := by decide
  rw [he] at b2
  obtain ⟨H2, t1, t2, t3⟩ := text_ok (s := strOf d) b2 ((Rb.all H).mono b3.1) (by rw [strOf_size]; omega)
  have hl : (fkey d).length ≤ 1000000000000 := by
    have := nb_len ((strOf d).size : Int)
    simp only [fkey, tb, List.length_append, sb_len, strOf_size] at this ⊢
    omega
  obtain ⟨w, e1, e2⟩ := ends_ok t2 ((Rb.all H).mono (b3.trans t3).1) (by show (fkey d).length < _; omega)
  refine ⟨w, H2, ?_, e2, b3.trans t3⟩
  refine Ev.enter (fun n => f11_eq rfl n _ _) ?_
  simp only [f11, real_b, real_c]
  refine Ev.callC b1 ?_
  simp only [chk_t, h.blk b3, Bool.true_and, toStr_sl (h.keep b3), bnd_some]
  refine Ev.callC t1 ?_
  simp only [chk_t, extr0, extr1, bnd_some, up, bnd]
  refine Ev.callC e1 ?_
  simp only [chk_t, extr0, extr1, bnd_some]
  exact Ev.pure _
theorem rfile_ok {H : Heap} {v : Value} {n : Nat} {d : List Nat} (h : Sl (all H) H 1 v n (B d)) (hd : d.length ≤ 100000000000) :
    ∃ w H', Cl 12 [v] H (.tuple #[w, .int .i64 (endE 0 (fkey d))]) H' ∧ Acc (all H) H' 1 w (endL 0 (fkey d)).length (B (endL 0 (fkey d))) ∧ Keep (all H) H H' := by
  have hmb : mostBytes = 140737488355328 := rfl
  obtain ⟨H0, b0, b1, b2, b3⟩ := rbegin H
  obtain ⟨H1, n1, n2, n3⟩ := number_ok (x := 1) b2 ((Rb.all H).mono b3.1) (by simp; omega)
  have h9 := nb_len 1
  have he : (false || !okN 1) = false := by decide
  rw [he] at n2
  obtain ⟨H2, t1, t2, t3⟩ := rtext_ok (s := strOf d) n2 ((Rb.all H).mono (b3.trans n3).1) (by rw [strOf_size, List.nil_append]; omega)
  have hl : (fkey d).length ≤ 1000000000000 := by
    have := nb_len ((strOf d).size : Int)
    simp only [fkey, tb, List.length_append, sb_len, strOf_size] at this ⊢
    omega
  rw [List.nil_append] at t2
  obtain ⟨w, e1, e2⟩ := rends_ok t2 ((Rb.all H).mono ((b3.trans n3).trans t3).1) (by show (fkey d).length < _; omega)
  simp only [Bool.false_eq_true, if_false] at e1 e2
  refine ⟨w, H2, ?_, e2, (b3.trans n3).trans t3⟩
  refine Ev.enter (fun n => f12_eq rfl n _ _) ?_
  simp only [f12, real_b, b0, b1, bnd_some]
  refine Ev.callC n1 ?_
  simp only [toStr_sl (h.keep (b3.trans n3)), bnd_some]
  refine Ev.callC t1 ?_
  refine Ev.callC e1 ?_
  simp only [extr0, extr1, bnd_some]
  exact Ev.pure _
end Go.Eng
