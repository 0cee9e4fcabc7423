/- The laws GramParses and GramPlace. -/
import Derived.Test.YtmfbebfpeimflaaDoorGBB
import Derived.Test.YtmfbebfpeimflaaDoorGP3
set_option linter.unusedVariables false
set_option linter.unusedSimpArgs false
set_option linter.unusedSectionVars false
set_option maxRecDepth 100000
namespace Go.Eng
open Go Go.Proofs

/-! ### plainly: what is read is small -/
def sm (r : Rd) : Prop := r.l.length ≤ 8192 ∧ ∀ w ∈ r.l, w.s.length ≤ 8192
theorem sm_next {r : Rd} (h : sm r) : sm r.next := by
  obtain ⟨l, bad⟩ := r
  cases l with
  | nil => exact h
  | cons t l => exact ⟨by have := h.1; simp only [List.length_cons] at this; simp only [Rd.next, List.tail_cons]; omega, fun w hw => h.2 w (by simp only [Rd.next, List.tail_cons] at hw; simp [hw])⟩
theorem sm_must {r : Rd} (h : sm r) (k : Nat) (g : List UInt8) : (mustN k g r).1.length ≤ 8192 ∧ sm (mustN k g r).2 := by
  unfold mustN
  split
  · refine ⟨?_, sm_next h⟩
    obtain ⟨l, bad⟩ := r
    cases l with
    | nil => simp [headN]
    | cons t l => exact h.2 t (by simp)
  · exact ⟨by simp, h⟩
theorem namesL_sm : ∀ l : List Wd, (namesL l).1.length ≤ l.length ∧ (namesL l).2 <:+ l
  | [] => ⟨by simp [namesL], List.suffix_refl _⟩
  | t :: l => by
    obtain ⟨h1, h2⟩ := namesL_sm l
    simp only [namesL]
    split
    · exact ⟨by simp; omega, h2.trans (List.suffix_cons t l)⟩
    · exact ⟨by simp, List.suffix_refl _⟩
theorem sm_names {r : Rd} (h : sm r) : (namesN r).1.length ≤ 8192 ∧ sm (namesN r).2 := by
  unfold namesN
  split
  · exact ⟨by simp, h⟩
  · obtain ⟨h1, h2⟩ := namesL_sm r.l
    exact ⟨Nat.le_trans h1 h.1, Nat.le_trans h2.length_le h.1, fun w hw => h.2 w (h2.mem hw)⟩
theorem sm_alt {r : Rd} (h : sm r) : (altN r).1.S.length ≤ 8192 ∧ sm (altN r).2 := by
  obtain ⟨h1, h2⟩ := sm_names h
  unfold altN
  split
  · exact ⟨h1, (sm_must (sm_next h2) 1 []).2⟩
  · exact ⟨h1, h2⟩
theorem sm_altsF : ∀ (n : Nat) {r : Rd}, sm r → (altsF n r).1.length ≤ n + 1 ∧ (∀ a ∈ (altsF n r).1, a.S.length ≤ 8192) ∧ sm (altsF n r).2
  | 0, r, h => ⟨by simp [altsF], fun a ha => by simp only [altsF, List.mem_singleton] at ha; subst ha; exact (sm_alt h).1, (sm_alt h).2⟩
  | n + 1, r, h => by
    obtain ⟨h1, h2⟩ := sm_alt h
    simp only [altsF]
    split
    · obtain ⟨g1, g2, g3⟩ := sm_altsF n (sm_next h2)
      exact ⟨by simp; omega, fun a ha => by
        simp only [List.mem_cons] at ha
        rcases ha with rfl | ha
        · exact h1
        · exact g2 a ha, g3⟩
    · exact ⟨by simp, fun a ha => by simp only [List.mem_singleton] at ha; subst ha; exact h1, h2⟩
/-- What is read so far is small. -/
def Fk (f : Fl) : Prop := (∀ x ∈ f.T, x.N.length ≤ 8192 ∧ x.P.length ≤ 8192) ∧ (∀ x ∈ f.P, x.N.length ≤ 8193) ∧ (∀ x ∈ f.R, x.A.length ≤ 8193 ∧ ∀ a ∈ x.A, a.S.length ≤ 8192)
theorem mem_snoc {α : Type} {P : α → Prop} {l : List α} {y : α} (h : ∀ x ∈ l, P x) (hy : P y) : ∀ x ∈ l ++ [y], P x := fun x hx => by
  simp only [List.mem_append, List.mem_singleton] at hx
  rcases hx with hx | rfl
  · exact h x hx
  · exact hy
theorem sm_body {r : Rd} {f : Fl} (h : sm r) (hf : Fk f) (k : Nat) : Fk (bodyN k r f).1 ∧ sm (bodyN k r f).2 := by
  unfold bodyN
  split
  · exact ⟨hf, (sm_must h 2 []).2⟩
  split
  · exact ⟨hf, (sm_must h 1 []).2⟩
  split
  · have h1 := sm_must h 1 []
    have h2 := sm_must h1.2 4 [61]
    have h3 := sm_must h2.2 3 []
    exact ⟨⟨mem_snoc hf.1 ⟨h1.1, h3.1⟩, hf.2⟩, h3.2⟩
  split
  · have h1 := sm_must h 1 []
    have h2 := sm_must h1.2 4 [58]
    have h3 := sm_altsF (mustN 4 [58] (mustN 1 [] r).2).2.l.length h2.2
    exact ⟨⟨hf.1, hf.2.1, mem_snoc hf.2.2 ⟨Nat.le_trans h3.1 (by have := h2.2.1; omega), h3.2.1⟩⟩, h3.2.2⟩
  · have h1 := sm_must h 1 []
    have h2 := sm_names h1.2
    exact ⟨⟨hf.1, mem_snoc hf.2.1 (by simp only [precN, List.length_cons]; omega), hf.2.2⟩, h2.2⟩
theorem sm_line {t : Wd} {l : List Wd} {f : Fl} (h : sm ⟨t :: l, false⟩) (hf : Fk f) : Fk (lineN t l f).1 ∧ sm (lineN t l f).2 := by
  unfold lineN
  split
  · exact ⟨hf, h⟩
  · have h1 := sm_body (r := ⟨l, false⟩) (sm_next h) hf t.K
    exact ⟨h1.1, (sm_must h1.2 4 [59]).2⟩
theorem sm_lines : ∀ (n : Nat) {r : Rd} {f : Fl}, sm r → Fk f → Fk (linesN n r f).1 ∧ flen (linesN n r f).1 ≤ flen f + r.l.length
  | 0, r, f, h, hf => ⟨hf, by simp [linesN]⟩
  | n + 1, r, f, h, hf => by
    obtain ⟨l, bad⟩ := r
    cases l with
    | nil => exact ⟨hf, by simp [linesN]⟩
    | cons t l =>
      cases bad with
      | true => exact ⟨hf, by simp [linesN]⟩
      | false =>
        have h1 := sm_line h hf
        have h2 := sm_lines n h1.2 h1.1
        have h3 := flen_line t l f
        exact ⟨h2.1, by show flen (linesN n (lineN t l f).2 (lineN t l f).1).1 ≤ _; simp only [List.length_cons]; omega⟩
theorem fok_of {f : Fl} (h : Fk f) (hl : flen f ≤ 100000) : Fok f := by
  unfold flen at hl
  exact ⟨by omega, by omega, by omega, by omega, fun x hx => ⟨by have := (h.1 x hx).1; omega, by have := (h.1 x hx).2; omega⟩, fun x hx => by have := h.2.1 x hx; omega, fun x hx => ⟨by have := (h.2.2 x hx).1; omega, fun a ha => by have := (h.2.2 x hx).2 a ha; omega⟩⟩
theorem fk_none : Fk Fl.none := by
  refine ⟨?_, ?_, ?_⟩ <;> simp [Fl.none]
theorem gparse_fk (b : List UInt8) : Fk (gparse b).1 ∧ flen (gparse b).1 ≤ 8192 := by
  have h0 : Fk Fl.none ∧ flen Fl.none ≤ 8192 := ⟨fk_none, by simp [flen, Fl.none]⟩
  by_cases h8 : 8192 < b.length
  · unfold gparse; rw [if_pos h8]; exact h0
  · cases hc : (cutN 0 b).2 with
    | some i => unfold gparse; rw [if_neg h8, hc]; exact h0
    | none =>
      rw [gparse_ok (by omega) hc]
      unfold saidN
      split
      · exact h0
      · have hl := cutN_len b 0
        have hs : sm ⟨wordsOf b (cutN 0 b).1, false⟩ := ⟨by simp [wordsOf]; omega, fun w hw => by
          simp only [wordsOf, List.mem_map] at hw
          obtain ⟨t, _, rfl⟩ := hw
          simp only [saysN]
          split <;> simp <;> omega⟩
        have := sm_lines (wordsOf b (cutN 0 b).1).length hs fk_none
        have e : flen Fl.none = 0 := rfl
        exact ⟨this.1, Nat.le_trans this.2 (by rw [e]; simp [wordsOf]; omega)⟩
theorem gparse_fok (b : List UInt8) : Fok (gparse b).1 := by
  obtain ⟨h1, h2⟩ := gparse_fk b
  exact fok_of h1 (by omega)

/-! ### the laws -/
theorem gramParses_ok {H : Heap} {b : List UInt8} {v : Value} (hL : Lg H) (hs : SlU (all H) H b v) (hb : b.length ≤ 140737488355328) : ∃ H', Cl 3 [v] H (.bool true) H' ∧ Keep (all H) H H' := by
  have hm : mostBytes = 140737488355328 := rfl
  obtain ⟨w, H1, a1, a2, a3⟩ := copy_ok hs (by omega)
  obtain ⟨cs, H2, b1, b2, b3⟩ := parse_ok (Box.up hL a3) (Acc.slU a2) (by omega)
  have K2 := a3.tr b2
  have k3 : Keep (all H2) H2 (H2.push ⟨cs, 1, true⟩) := push_keep
  have s3 := boxF b3 (H' := H2)
  have g3 : (H2.push ⟨cs, 1, true⟩).get H2.n = some ⟨cs, 1, true⟩ := push_self
  have n3 : (H2.push ⟨cs, 1, true⟩).n = H2.n + 1 := push_n
  have r3 := Rp.up b3 k3
  have K3 := K2.tr k3
  generalize H2.push ⟨cs, 1, true⟩ = H3 at *
  obtain ⟨ds, H4, c1, c2, c3⟩ := rparse_ok (hs.up K3) (by omega)
  have k5 : Keep (all H4) H4 (H4.push ⟨ds, 1, true⟩) := push_keep
  have s5 := boxF c3 (H' := H4)
  have g5 : (H4.push ⟨ds, 1, true⟩).get H4.n = some ⟨ds, 1, true⟩ := push_self
  have r5 := Rp.up c3 k5
  have K35 := c2.tr k5
  have g3' : (H4.push ⟨ds, 1, true⟩).get H2.n = some ⟨cs, 1, true⟩ := by rw [K35.2 _ (by show H2.n < H3.n; omega)]; exact g3
  generalize H4.push ⟨ds, 1, true⟩ = H5 at *
  have K5 := K3.tr K35
  have r3' := Rp.up r3 K35
  obtain ⟨H6, d1, d2⟩ := rsame_ok r3' r5 (gparse_fok b) (gparse_fok b)
  rw [decide_eq_true rfl] at d1
  have K6 := K5.tr d2
  have hw6 : SlU (all H6) H6 b w := (Acc.slU a2).up (b2.tr (k3.tr (K35.tr d2)))
  have e1 := eq_ok hw6 (hs.up K6) (by omega)
  rw [decide_eq_true rfl] at e1
  obtain ⟨H7, f1, f2⟩ := awake_ok (Box.up hL K6)
  have l3 := ld5 g3' (Rp.len r3')
  have l5 := ld5 g5 (Rp.len r5)
  have q1 : ((gparse b).2.1 == (gparse b).2.1) = true := by simp
  have q2 : ((gparse b).2.2 == (gparse b).2.2) = true := by simp
  refine ⟨H7, ?_, K6.tr f2⟩
  refine Ev.enter (fun n => f3_eq rfl n _ _) ?_
  simp only [f3, ruA, ruB, ruC, ruE, ruD, lenStr, Int.reduceBEq, Int.reduceBNe]
  refine Ev.callC a1 ?_
  refine Ev.callC b1 ?_
  simp only [ruA, ruB, ruC, ruE, ruD, lenStr, Int.reduceBEq, Int.reduceBNe, newF, s3]
  refine Ev.callC c1 ?_
  simp only [ruA, ruB, ruC, ruE, ruD, lenStr, Int.reduceBEq, Int.reduceBNe, newF, s5, l3, l5]
  refine Ev.callC d1 ?_
  simp only [ruA, ruB, ruC, ruE, ruD, lenStr, Int.reduceBEq, Int.reduceBNe, q1, q2]
  refine Ev.callC e1 ?_
  simp only [ruA, ruB, ruC, ruE, ruD, lenStr, Int.reduceBEq, Int.reduceBNe]
  refine Ev.callC f1 ?_
  exact Ev.pure _
theorem gramPlace_ok {H : Heap} {b : List UInt8} {v : Value} (hL : Lg H) (hs : SlU (all H) H b v) (hb : b.length ≤ 140737488355328) : ∃ H', Cl 5 [v] H (.bool true) H' ∧ Keep (all H) H H' := by
  obtain ⟨cs, H2, b1, b2, b3⟩ := parse_ok hL hs (by omega)
  have k3 : Keep (all H2) H2 (H2.push ⟨cs, 1, true⟩) := push_keep
  have s3 := boxF b3 (H' := H2)
  have K3 := b2.tr k3
  generalize hH3 : H2.push ⟨cs, 1, true⟩ = H3 at *
  by_cases h150 : (gparse b).2.2 = 150
  · obtain ⟨at_, p1, p2, p3⟩ := place_law h150
    have q1 : ((gparse b).2.2 != 150) = false := by rw [h150]; rfl
    have q2 : ((at_ : Int) < 0) = False := eq_false (by omega)
    have q3 : ((at_ : Int) > (b.length : Int)) = False := eq_false (by omega)
    obtain ⟨w, t1, t2⟩ := SlU.take (hs.up K3) p2
    obtain ⟨ds, H4, c1, c2, c3⟩ := parse_ok (Box.up hL K3) t2 (by simp only [List.length_take]; omega)
    have k5 : Keep (all H4) H4 (H4.push ⟨ds, 1, true⟩) := push_keep
    have s5 := boxF c3 (H' := H4)
    have K5 := K3.tr (c2.tr k5)
    generalize hH5 : H4.push ⟨ds, 1, true⟩ = H5 at *
    obtain ⟨H6, f1, f2⟩ := awake_ok (Box.up hL K5)
    rw [p1] at b1
    refine ⟨H6, ?_, K5.tr f2⟩
    refine Ev.enter (fun n => f5_eq rfl n _ _) ?_
    simp only [f5, ruA, ruB, ruC, ruE, ruD, lenStr, Int.reduceBEq, Int.reduceBNe]
    refine Ev.callC b1 ?_
    simp only [ruA, ruB, ruC, ruE, ruD, lenStr, Int.reduceBEq, Int.reduceBNe, newF, s3, hH3, q1, q2, q3, (hs.up K3).len, t1]
    refine Ev.callC c1 ?_
    rcases p3 with p3 | ⟨p3, p4⟩
    · rw [p3]
      simp only [ruA, ruB, ruC, ruE, ruD, lenStr, Int.reduceBEq, Int.reduceBNe, newF, s5, hH5]
      refine Ev.callC f1 ?_
      exact Ev.pure _
    · rw [p3, p4]
      have q4 : ((at_ : Int) == (at_ : Int)) = true := by simp
      simp only [ruA, ruB, ruC, ruE, ruD, lenStr, Int.reduceBEq, Int.reduceBNe, newF, s5, hH5, q4]
      refine Ev.callC f1 ?_
      exact Ev.pure _
  · have q1 : ((gparse b).2.2 != 150) = true := by simpa using h150
    obtain ⟨H6, f1, f2⟩ := awake_ok (Box.up hL K3)
    refine ⟨H6, ?_, K3.tr f2⟩
    refine Ev.enter (fun n => f5_eq rfl n _ _) ?_
    simp only [f5, ruA, ruB, ruC, ruE, ruD, lenStr, Int.reduceBEq, Int.reduceBNe]
    refine Ev.callC b1 ?_
    simp only [ruA, ruB, ruC, ruE, ruD, lenStr, Int.reduceBEq, Int.reduceBNe, newF, s3, hH3, q1]
    refine Ev.callC f1 ?_
    exact Ev.pure _
end Go.Eng
