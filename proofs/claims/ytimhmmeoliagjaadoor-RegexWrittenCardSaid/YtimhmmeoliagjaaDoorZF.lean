/- RegexWritten, walked. -/
import Derived.Test.YtimhmmeoliagjaaDoorZE
set_option linter.unusedVariables false
set_option linter.unusedSimpArgs false
set_option linter.unusedSectionVars false
set_option maxRecDepth 100000
namespace Go.Eng
open Go Go.Proofs

theorem str_x {a : Nat} : binB Tryd.prog .add 9 (.string ⟨#[92, 120]⟩) (.string (strOf [a])) = some (.string (strOf [92, 120, a])) := s_add (a := [92, 120]) (b := [a]) (by simp)
theorem str_xx {a b : Nat} : binB Tryd.prog .add 9 (.string (strOf [92, 120, a])) (.string (strOf [b])) = some (.string (strOf [92, 120, a, b])) := s_add (by simp)
theorem str_ap {a b : List Nat} (h : a.length + b.length < 1000000) : binB Tryd.prog .add 9 (.string (strOf a)) (.string (strOf b)) = some (.string (strOf (a ++ b))) := s_add (by omega)
theorem u8_up {k : Nat} (h : k < 255) : binB Tryd.prog .add 5 (.int .u8 (k : Int)) (.int .u8 1) = some (.int .u8 ((k + 1 : Nat) : Int)) := by
  rw [b_add, wrap_u8 (by omega) (by omega)]; rfl
theorem takes3_ok {H : Heap} (hG : G9 H) {d e : List Nat} {t : Rx} (hd : Bts d) (he : Bts e) (hp : parseR d = .ok t) (ht : t.size ≤ 256) (hS : e.length ≤ 8192) : ∃ H', ClX 27 [.string (strOf d), .string (strOf e)] H (.bool (takesN (t.flat 0) e)) H' ∧ Keep (all H) H H' := by
  obtain ⟨H', c, k⟩ := takes2_ok hG (T := d.map UInt8.ofNat) (S := e.map UInt8.ofNat) (by rw [U_of hd]; exact hp) ht (by simpa using hS)
  rw [U_of he] at c
  exact ⟨H', c, k⟩
section
variable {b : List Nat} {c : Nat} {vt : Value} {G0 : Heap}
theorem written_end (hG : G9 G0) (hb : ∀ x ∈ b, x < 256) (hl : b.length ≤ 60) (hc : c < 256) (ht : Sl (all G0) G0 1 vt b.length (B b)) {G : Heap} (kG : Keep (all G0) G0 G) :
    ∃ G', Ev (fun n m => f8_L0 real (AX n) n m vt (.int .u8 (c : Int)) (.string (strOf (escS b))) (.string (strOf (escS b))) (.bool (decide (c ∈ b))) (.int .i64 (b.length : Int)) G) (.bool true, G') ∧ Keep (all G0) G0 G' := by
  have hGG := hG.keep kG
  have htG := (ht.keep kG).mono (upA kG)
  have hts := toStr_sl htG
  have el := escS_len b
  have eb := escS_by hb
  have z1 : binB Tryd.prog .add 9 (.string ⟨#[40]⟩) (.string (strOf (escS b))) = some (.string (strOf (40 :: escS b))) := s_add (a := [40]) (by simp; omega)
  have z2 : binB Tryd.prog .add 9 (.string (strOf (40 :: escS b))) (.string ⟨#[41]⟩) = some (.string (strOf (40 :: (escS b ++ [41])))) := s_add (a := 40 :: escS b) (b := [41]) (by simp; omega)
  have z3 : binB Tryd.prog .add 9 (.string (strOf (escS b))) (.string ⟨#[92, 120, 48, 48]⟩) = some (.string (strOf (escS (b ++ [0])))) := by
    rw [escS_snoc]; exact s_add (b := [92, 120, 48, 48]) (by simp; omega)
  have hb0 : ∀ x ∈ b ++ [0], x < 256 := fun x hx => by
    rcases List.mem_append.1 hx with h | h
    · exact hb x h
    · simp at h; omega
  have s1 := wrT_size b
  have s2 := wrT_size (b ++ [0])
  rw [List.length_append] at s2
  simp only [List.length_cons, List.length_nil] at s2
  obtain ⟨G1, c1, k1⟩ := takes3_ok hGG (d := 40 :: (escS b ++ [41])) (e := b) (cons_by (by decide) (app_by eb (cons_by (by decide) nil_by))) hb (parse_bra hb (by omega)) (by omega) (by omega)
  rw [wrT_self (by omega)] at c1
  have kG1 := kG.trans (k1.mono (upA kG))
  obtain ⟨G2, c2, k2⟩ := takes3_ok (hGG.keep k1) (d := escS (b ++ [0])) (e := b) (escS_by hb0) hb (parse_esc hb0 (by simp; omega)) (by omega) (by omega)
  rw [wrT_not (by omega)] at c2
  have kG2 := kG1.trans (k2.mono (upA kG1))
  have hts1 := toStr_sl ((htG.keep k1).mono (upA k1))
  obtain ⟨G3, hG3⟩ : ∃ G3, G2.push ⟨[.int .u8 (c : Int)], 1, true⟩ = G3 := ⟨_, rfl⟩
  have k3 : Keep (all G2) G2 G3 := by rw [← hG3]; exact push_keep
  have kG3 := kG2.trans (k3.mono (upA kG2))
  have t1 : bldS 1 1 [.int .u8 0] [(0, 1, .int .u8 (c : Int))] G2 = some (.slice (some ⟨G2.n, 0, none⟩) 1 1, G3) := by rw [← hG3]; exact to1
  have t2 : toStr (.slice (some ⟨G2.n, 0, none⟩) 1 1) G3 = some (.string (strOf [c]), G3) := by rw [← hG3]; exact str1
  have e0 : ((b.length : Int) < (b.length : Int)) = False := by simp
  by_cases hz : b = []
  · refine ⟨G3, Ev.step (fun n m => f8_L0.eq_2 _ _ _ _ _ _ _ _ _ _ m) ?_, kG3⟩
    have e1 : ((b.length : Int) == 0) = true := by rw [hz]; rfl
    simp only [ruA, ruB, ruC, ruE, ruD, lenStr, Int.reduceBEq, Int.reduceBNe, ht.lenS, e0, z1, z2, hts]
    refine Ev.callC c1 ?_
    simp only [ruA, ruB, ruC, ruE, ruD, lenStr, Int.reduceBEq, Int.reduceBNe, z3, hts1]
    refine Ev.callC c2 ?_
    simp only [ruA, ruB, ruC, ruE, ruD, lenStr, Int.reduceBEq, Int.reduceBNe, t1, t2, e1]
    exact Ev.pure _
  · have e1 : ((b.length : Int) == 0) = false := by
      have := k_eq' (a := b.length) (k := 0)
      rw [decide_eq_false (fun h => hz (List.length_eq_zero_iff.1 h))] at this
      exact this
    have bc : Bts [c] := cons_by hc nil_by
    obtain ⟨s, p1, p2⟩ := parse_cls hb (by omega) hz
    obtain ⟨G4, c4, k4⟩ := takes3_ok (hG.keep kG3) (d := 91 :: (escS b ++ [93])) (e := [c]) (cons_by (by decide) (app_by eb (cons_by (by decide) nil_by))) bc p1 (by simp [Rx.size]) (by simp)
    rw [set_takes, p2] at c4
    have kG4 := kG3.trans (k4.mono (upA kG3))
    obtain ⟨s', p3, p4⟩ := parse_ncls hb (by omega) hz
    obtain ⟨G5, c5, k5⟩ := takes3_ok (hG.keep kG4) (d := 91 :: 94 :: (escS b ++ [93])) (e := [c]) (cons_by (by decide) (cons_by (by decide) (app_by eb (cons_by (by decide) nil_by)))) bc p3 (by simp [Rx.size]) (by simp)
    rw [set_takes, p4 c hc] at c5
    have kG5 := kG4.trans (k5.mono (upA kG4))
    have z4 : binB Tryd.prog .add 9 (.string ⟨#[91]⟩) (.string (strOf (escS b))) = some (.string (strOf (91 :: escS b))) := s_add (a := [91]) (by simp; omega)
    have z5 : binB Tryd.prog .add 9 (.string (strOf (91 :: escS b))) (.string ⟨#[93]⟩) = some (.string (strOf (91 :: (escS b ++ [93])))) := s_add (a := 91 :: escS b) (b := [93]) (by simp; omega)
    have z6 : binB Tryd.prog .add 9 (.string ⟨#[91, 94]⟩) (.string (strOf (escS b))) = some (.string (strOf (91 :: 94 :: escS b))) := s_add (a := [91, 94]) (by simp; omega)
    have z7 : binB Tryd.prog .add 9 (.string (strOf (91 :: 94 :: escS b))) (.string ⟨#[93]⟩) = some (.string (strOf (91 :: 94 :: (escS b ++ [93])))) := s_add (a := 91 :: 94 :: escS b) (b := [93]) (by simp; omega)
    refine ⟨G5, Ev.step (fun n m => f8_L0.eq_2 _ _ _ _ _ _ _ _ _ _ m) ?_, kG5⟩
    simp only [ruA, ruB, ruC, ruE, ruD, lenStr, Int.reduceBEq, Int.reduceBNe, ht.lenS, e0, z1, z2, hts]
    refine Ev.callC c1 ?_
    simp only [ruA, ruB, ruC, ruE, ruD, lenStr, Int.reduceBEq, Int.reduceBNe, z3, hts1]
    refine Ev.callC c2 ?_
    simp only [ruA, ruB, ruC, ruE, ruD, lenStr, Int.reduceBEq, Int.reduceBNe, t1, t2, e1, z4, z5]
    refine Ev.callC c4 ?_
    simp only [ruA, ruB, ruC, ruE, ruD, lenStr, Int.reduceBEq, Int.reduceBNe, b_boo, beq_self_eq_true, z6, z7]
    refine Ev.callC c5 ?_
    simp only [ruA, ruB, ruC, ruE, ruD, lenStr, Int.reduceBEq, Int.reduceBNe, b_boo, beq_self_eq_true]
    exact Ev.pure _
theorem written_loop (hG : G9 G0) (hb : ∀ x ∈ b, x < 256) (hl : b.length ≤ 60) (hc : c < 256) (ht : Sl (all G0) G0 1 vt b.length (B b)) : ∀ (d i : Nat), i + d = b.length →
    ∃ G', Ev (fun n m => f8_L0 real (AX n) n m vt (.int .u8 (c : Int)) (.string (strOf (escS (b.take i)))) (.string (strOf (escS (b.take i)))) (.bool (decide (c ∈ b.take i))) (.int .i64 (i : Int)) G0) (.bool true, G') ∧ Keep (all G0) G0 G' := by
  intro d
  induction d with
  | zero =>
    intro i hi
    obtain rfl : i = b.length := by omega
    rw [List.take_length]
    exact written_end hG hb hl hc ht (Keep.refl _ _)
  | succ d ih =>
    intro i hi
    have hil : i < b.length := by omega
    obtain ⟨x, hx⟩ : ∃ x, b[i] = x := ⟨_, rfl⟩
    have hx256 : x < 256 := by rw [← hx]; exact hb _ (List.getElem_mem hil)
    obtain ⟨p, p1, p2⟩ := ht.at1 (i := i) (x := .int .u8 (x : Int)) (by simp [B, hil, hx])
    obtain ⟨G', r1, r2⟩ := ih (i + 1) (by omega)
    have htk : b.take (i + 1) = b.take i ++ [x] := by rw [List.take_add_one, List.getElem?_eq_getElem hil, hx]; rfl
    rw [htk, escS_snoc] at r1
    refine ⟨G', Ev.step (fun n m => f8_L0.eq_2 _ _ _ _ _ _ _ _ _ _ m) ?_, r2⟩
    have e : ((i : Int) < (b.length : Int)) = True := eq_true (by omega)
    have hl2 : (escS (b.take i)).length + (escX x).length < 1000000 := by rw [escS_len, List.length_take]; simp [escX]; omega
    have ap := str_ap hl2
    have ex : strOf [92, 120, hexN (x / 16), hexN (x % 16)] = strOf (escX x) := rfl
    have u1 := u8_up (k := x / 16) (by omega)
    have u2 := u8_up (k := x % 16) (by omega)
    have sl1 := slc_dig (k := x / 16) (by omega)
    have sl2 := slc_dig (k := x % 16) (by omega)
    by_cases hm : c ∈ b.take i
    · rw [decide_eq_true hm]
      rw [decide_eq_true (List.mem_append_left _ hm)] at r1
      simp only [ruA, ruB, ruD, b_lss, ht.lenS, e, p1, p2, u8_shr4 hx256, u8_and15 hx256, u1, u2, sl1, sl2, str_x, str_xx, ex, ap, b_add, idx_up (show i < 9223372036854775807 by omega)]
      exact r1
    · rw [decide_eq_false hm]
      have hd : decide (c ∈ b.take i ++ [x]) = ((x : Int) == (c : Int)) := by
        rw [k_eq', decide_eq_decide, List.mem_append]
        simp only [List.mem_cons, List.not_mem_nil, or_false]
        constructor
        · rintro (h | h)
          · exact absurd h hm
          · exact h.symm
        · intro h; exact .inr h.symm
      rw [hd] at r1
      simp only [ruA, ruB, ruD, b_lss, b_eql, ht.lenS, e, p1, p2, u8_shr4 hx256, u8_and15 hx256, u1, u2, sl1, sl2, str_x, str_xx, ex, ap, b_add, idx_up (show i < 9223372036854775807 by omega)]
      exact r1
end
theorem written_ok {H : Heap} (hG : G9 H) {vt : Value} {T : List UInt8} {c : UInt8} (ht : Sl (all H) H 1 vt (U T).length (B (U T))) :
    ∃ H', ClX 8 [vt, .int .u8 (c.toNat : Int)] H (.bool true) H' ∧ Keep (all H) H H' := by
  obtain ⟨H1, c1, k1⟩ := works_ok hG
  have ht1 := (ht.keep k1).mono (upA k1)
  obtain ⟨m, hm⟩ : ∃ m, min T.length 60 = m := ⟨_, rfl⟩
  obtain ⟨vp, sp, hp⟩ := sl_byt ht1 (m := m) (by omega)
  have hpl : ((U T).take m).length ≤ 60 := by rw [List.length_take]; omega
  have hpb : ∀ x ∈ (U T).take m, x < 256 := fun x hx => U_byte T x (List.mem_of_mem_take hx)
  obtain ⟨T', hT'⟩ : ∃ T', (U T).take m = T' := ⟨_, rfl⟩
  rw [hT'] at hp hpl hpb
  obtain ⟨G', r1, r2⟩ := written_loop (c := c.toNat) (hG.keep k1) hpb hpl c.toNat_lt hp T'.length 0 (by omega)
  refine ⟨G', Ev.enter (fun n => f8_eq rfl n _ _ _) ?_, k1.trans (r2.mono (upA k1))⟩
  have mv : ∀ G : Heap, minV (.int .i64 ((U T).length : Int)) (.int .i64 60) G = some (.int .i64 (m : Int), G) := fun G => by
    have := minV_nat (a := (U T).length) (b := 60) (H := G)
    rw [U_len, hm] at this
    rw [U_len]; exact this
  simp only [f8, ruA, ruB, ruC, ruE, ruD, lenStr, Int.reduceBEq, Int.reduceBNe]
  refine Ev.callC c1 ?_
  simp only [ruA, ruB, ruC, ruE, ruD, lenStr, Int.reduceBEq, Int.reduceBNe, ht.lenS, mv, sp]
  exact Ev.loop r1
end Go.Eng
