import Derived.Test.YtimhmmeoliagjaaDoorQK
set_option linter.unusedVariables false
set_option linter.unusedSimpArgs false
namespace Go.Eng

theorem escR_len {r : List Nat} {c : Nat} {r' : List Nat} (h : escR r = .ok (c, r')) : r'.length < r.length := by
  cases r with
  | nil => cases h
  | cons x r =>
    rw [escR_cons] at h
    unfold escC at h
    split at h
    · simp only [Except.ok.injEq, Prod.mk.injEq] at h; obtain ⟨rfl, rfl⟩ := h; simp
    split at h
    · simp only [Except.ok.injEq, Prod.mk.injEq] at h; obtain ⟨rfl, rfl⟩ := h; simp
    split at h
    · simp only [Except.ok.injEq, Prod.mk.injEq] at h; obtain ⟨rfl, rfl⟩ := h; simp
    split at h
    · simp only [Except.ok.injEq, Prod.mk.injEq] at h; obtain ⟨rfl, rfl⟩ := h; simp
    split at h
    · have := hex2_ok h; simp; omega
    · cases h
theorem letR_len {no r : List Nat} {c : Nat} {r' : List Nat} (h : letR no r = .ok (c, r')) : r'.length < r.length := by
  cases r with
  | nil => cases h
  | cons x r =>
    simp only [letR] at h
    split at h
    · have := escR_len h; simp; omega
    · split at h
      · cases h
      · simp only [Except.ok.injEq, Prod.mk.injEq] at h
        obtain ⟨rfl, rfl⟩ := h
        simp
theorem clsL_len : ∀ (f : Nat) (first : Bool) (s : Nat) {r r' : List Nat} {s' : Nat}, clsL f first s r = .ok (s', r') → r'.length < r.length
  | 0, _, _, _, _, _, h => by cases h
  | f + 1, first, s, r, r', s', h => by
    rw [clsL] at h
    split at h
    · rename_i hc
      simp only [Except.ok.injEq, Prod.mk.injEq] at h
      obtain ⟨rfl, rfl⟩ := h
      cases r with
      | nil => cases hc.2
      | cons x r => simp
    · split at h
      · cases h
      · rename_i a r1 h1
        have q1 := letR_len h1
        split at h
        · split at h
          · cases h
          · rename_i c r2 h2
            have q2 := letR_len h2
            split at h
            · cases h
            · have q3 := clsL_len f _ _ h
              have : r1.tail.length ≤ r1.length := by simp
              omega
        · have q3 := clsL_len f _ _ h
          omega
theorem clsR_len {r r' : List Nat} {s' : Nat} (h : clsR r = .ok (s', r')) : r'.length < r.length := by
  unfold clsR at h
  split at h
  · split at h
    · cases h
    · rename_i s r1 h1
      simp only [Except.ok.injEq, Prod.mk.injEq] at h
      obtain ⟨_, rfl⟩ := h
      have := clsL_len _ _ _ h1
      have : r.tail.length ≤ r.length := by simp
      omega
  · exact clsL_len _ _ _ h
theorem postR_len : ∀ (r : List Nat) (t : Rx), (postR t r).1.size + 2 * (postR t r).2.length ≤ t.size + 2 * r.length ∧ (postR t r).2.length ≤ r.length
  | [], t => by simp [postR]
  | c :: r, t => by
    rw [postR]
    split
    · have := postR_len r (.alt t .nil); simp [Rx.size] at this ⊢; omega
    split
    · have := postR_len r (.plus t); simp [Rx.size] at this ⊢; omega
    split
    · have := postR_len r (.star t); simp [Rx.size] at this ⊢; omega
    · simp
theorem read_len : ∀ (f : Nat),
    (∀ {r r' : List Nat} {t : Rx}, atomR f r = .ok (t, r') → r'.length < r.length ∧ t.size + 1 + 2 * r'.length ≤ 2 * r.length) ∧
    (∀ {x : Option Rx} {r r' : List Nat} {t : Rx}, wayL f x r = .ok (t, r') → r'.length ≤ r.length ∧ t.size + 2 * r'.length ≤ (match x with | none => 1 | some x => x.size) + 2 * r.length) ∧
    (∀ {x : Rx} {r r' : List Nat} {t : Rx}, waysL f x r = .ok (t, r') → r'.length ≤ r.length ∧ t.size + 2 * r'.length ≤ x.size + 2 * r.length) ∧
    (∀ {r r' : List Nat} {t : Rx}, waysR f r = .ok (t, r') → r'.length ≤ r.length ∧ t.size + 2 * r'.length ≤ 1 + 2 * r.length) := by
  intro f
  induction f with
  | zero => exact ⟨fun h => by simp [atomR] at h, fun h => by simp [wayL] at h, fun h => by simp [waysL] at h, fun h => by simp [waysR] at h⟩
  | succ f ih =>
    obtain ⟨ia, iw, il, iv⟩ := ih
    refine ⟨fun {r r' t} h => ?_, fun {x r r' t} h => ?_, fun {x r r' t} h => ?_, fun {r r' t} h => ?_⟩
    · rw [atomR.eq_def] at h
      simp only at h
      split at h
      · rename_i r1
        split at h
        · cases h
        · rename_i t1 r2 h1
          obtain ⟨q1, q2⟩ := iv h1
          split at h
          · rename_i hh
            simp only [Except.ok.injEq, Prod.mk.injEq] at h
            obtain ⟨rfl, rfl⟩ := h
            cases r2 with
            | nil => cases hh
            | cons y r2 => simp at q1 q2 ⊢; omega
          · cases h
      · simp only [Except.ok.injEq, Prod.mk.injEq] at h
        obtain ⟨rfl, rfl⟩ := h
        simp [Rx.size]
        omega
      · split at h
        · cases h
        · rename_i s r2 h1
          simp only [Except.ok.injEq, Prod.mk.injEq] at h
          obtain ⟨rfl, rfl⟩ := h
          have := clsR_len h1
          simp [Rx.size]
          omega
      · split at h
        · cases h
        · rename_i c r2 h1
          simp only [Except.ok.injEq, Prod.mk.injEq] at h
          obtain ⟨rfl, rfl⟩ := h
          have := letR_len h1
          simp [Rx.size]
          omega
    · rw [wayL.eq_def] at h
      simp only at h
      split at h
      · simp only [Except.ok.injEq, Prod.mk.injEq] at h
        obtain ⟨rfl, rfl⟩ := h
        cases x <;> simp [Rx.size]
      · split at h
        · cases h
        · rename_i t1 r1 h1
          obtain ⟨q1, q2⟩ := ia h1
          obtain ⟨q3, q4⟩ := iw h
          obtain ⟨q5, q6⟩ := postR_len r1 t1
          cases x with
          | none => simp only at q4 ⊢; omega
          | some x => simp only [Rx.size] at q4 ⊢; omega
    · rw [waysL.eq_def] at h
      simp only at h
      split at h
      · rename_i hh
        cases r with
        | nil => cases hh
        | cons y r =>
          split at h
          · cases h
          · rename_i t1 r1 h1
            obtain ⟨q1, q2⟩ := iw h1
            obtain ⟨q3, q4⟩ := il h
            simp [Rx.size] at q1 q2 q3 q4 ⊢
            omega
      · simp only [Except.ok.injEq, Prod.mk.injEq] at h
        obtain ⟨rfl, rfl⟩ := h
        exact ⟨Nat.le_refl _, Nat.le_refl _⟩
    · rw [waysR.eq_def] at h
      simp only at h
      split at h
      · cases h
      · rename_i t1 r1 h1
        obtain ⟨q1, q2⟩ := iw h1
        obtain ⟨q3, q4⟩ := il h
        simp only at q2
        omega
end Go.Eng

set_option linter.unusedVariables false
set_option linter.unusedSimpArgs false
set_option linter.unusedSectionVars false
set_option maxRecDepth 100000
namespace Go.Eng
open Go Go.Proofs

def nodesOf (l : List Nd) : Option Rx → List Nd
  | none => l
  | some x => l ++ x.flat l.length
def szO : Option Rx → Nat
  | none => 0
  | some x => x.size
def idxO (l : List Nd) : Option Rx → Int
  | none => -1
  | some x => ((l.length + x.size - 1 : Nat) : Int)
def pieceQ (r : Rd Rx) : Rd Rx := match r with
  | .error e => .error e
  | .ok (t, r1) => .ok (postR t r1)
theorem atomR_cons (f c : Nat) (r : List Nat) : atomR (f + 1) (c :: r) =
    if c = 40 then (match waysR f r with | .error e => .error e | .ok (t, r2) => if r2.head? = some 41 then .ok (t, r2.tail) else .error r2)
    else if c = 46 then .ok (.set (notS (ofS [10])), r)
    else if c = 91 then (match clsR r with | .error e => .error e | .ok (s, r2) => .ok (.set s, r2))
    else match letR signsL (c :: r) with | .error e => .error e | .ok (c, r2) => .ok (.set (ofS [c]), r2) := by
  rw [atomR.eq_def]
  simp only
  split
  · rename_i e; injection e with e1 e2; subst e1; subst e2; rw [if_pos rfl]; rfl
  · rename_i e; injection e with e1 e2; subst e1; subst e2; rfl
  · rename_i e; injection e with e1 e2; subst e1; subst e2; rfl
  · rename_i h1 h2 h3
    rw [if_neg fun e => h1 _ (by rw [e]), if_neg fun e => h2 _ (by rw [e]), if_neg fun e => h3 _ (by rw [e])]
    rfl
section
variable {H0 : Heap} {b : Nat} {T : List UInt8} (hT : T.length ≤ 1024) (hL : Lt (all H0) H0)
include hT
theorem piece_of {H : Heap} {l : List Nd} {r : Rd Rx} {rest : Nat} (h : RdX (fun n _ => AP n 94 [ptr b 0] H) H0 b T l r) (hB : ∀ t r', r = .ok (t, r') → l.length + t.size + 2 * r'.length ≤ 90000) : RdX (fun n _ => AP n 83 [ptr b 0] H) H0 b T l (pieceQ r) := by
  cases r with
  | error e =>
    obtain ⟨at', H', q1, q2, q3, q4⟩ := h
    refine ⟨at', H', q1, q2, Ev.enter (fun n => f83_eqP n _ _) ?_, q4⟩
    simp only [f83, ruP]
    exact Ev.panQ q3 rfl
  | ok p =>
    obtain ⟨t, r1⟩ := p
    obtain ⟨at1, H1, q1, rfl, q3, q4⟩ := h
    have := hB t _ rfl
    rw [List.length_drop, U_len'] at this
    obtain ⟨at', H', g1, g2, g3, g4⟩ := post_loop hT _ at1 t H1 rfl q1 q4 this
    show RdX _ _ _ _ _ (.ok (postR t ((U T).drop at1)))
    refine ⟨at', H', g1, g2, Ev.enter (fun n => f83_eqP n _ _) ?_, g4⟩
    simp only [f83, ruP]
    refine Ev.callQ q3 rfl ?_
    exact Ev.loop g3
include hL
theorem atom_step {f : Nat} (iv : ∀ {l : List Nd} {at_ : Nat} {H : Heap}, RB H0 H b T at_ l → at_ ≤ T.length → 4 * (T.length - at_) + 4 ≤ f → l.length + 2 * (T.length - at_) + 1 ≤ 80000 → RdX (fun n _ => AP n 46 [ptr b 0] H) H0 b T l (waysR f ((U T).drop at_)))
    {l : List Nd} {at_ : Nat} {H : Heap} (h : RB H0 H b T at_ l) (hat : at_ < T.length) (hf : 4 * (T.length - at_) + 1 ≤ f + 1) (hB : l.length + 2 * (T.length - at_) ≤ 80000) : RdX (fun n _ => AP n 94 [ptr b 0] H) H0 b T l (atomR (f + 1) ((U T).drop at_)) := by
  obtain ⟨x, hx⟩ := at_some hat
  have hd := U_drop_at hx
  have hc := x.toNat_lt
  obtain ⟨H1, hH1⟩ : ∃ H1, H.push ⟨SC 0, 1, true⟩ = H1 := ⟨_, rfl⟩
  have nv : newV [.int .u64 0, .int .u64 0, .int .u64 0, .int .u64 0] H = some (ptr H.n 0, H1) := by rw [SC_zero, newV_box (SC_one _), hH1]
  have h1 : RB H0 H1 b T at_ l := by rw [← hH1]; exact h.push _
  have n1 : H1.n = H.n + 1 := by rw [← hH1]; rfl
  have gp : H1.get H.n = some ⟨SC 0, 1, true⟩ := by rw [← hH1]; exact push_self
  obtain ⟨vl, t0, p0⟩ := h.text
  have hbn : b < H.n := t0.1
  have k01 : Keep (But H b) H H1 := by rw [← hH1]; exact push_keep.mono (all_but H b)
  have t1 : TB H1 b T at_ vl := by rw [← hH1]; exact t0.keep push_keep hbn
  have hLH : Lt (But H1 b) H1 := ((h.lt hL).keep k01).mono (but_up k01.1)
  have hh : ((U T).drop at_).head? = some x.toNat := by rw [hd]; rfl
  have hhne : ∀ k, x.toNat ≠ k → ((U T).drop at_).head? ≠ some k := fun k hk => by rw [hh]; simpa using hk
  have hbig : T.length < 1000000 := by omega
  have hsp : at_ + 1 ≤ T.length := hat
  have fin : ∀ {s at1 : Nat} {H2 : Heap}, Keep (But H1 b) H1 H2 → TB H2 b T at1 vl → at1 ≤ T.length →
      RdX (fun n _ => bndP (stV 4 (ptr H.n 0) (.agg (SC s).toArray) H2) fun _ H3 => f94_J1 realP (AP n) n (ptr b 0) (ptr H.n 0) H3) H0 b T l (.ok (.set s, (U T).drop at1)) := by
    intro s at1 H2 k2 t2 hat1
    have g2 : H2.get H.n = some ⟨SC 0, 1, true⟩ := by rw [k2.2 _ ⟨by omega, by omega⟩]; exact gp
    have k3 : Keep (fun q => q ≠ H.n) H2 (H2.upd H.n (some ⟨SC s, 1, true⟩)) := Keep.upd fun h => h rfl
    have kk : Keep (But H b) H (H2.upd H.n (some ⟨SC s, 1, true⟩)) := (k01.trans (k2.mono (but_up k01.1))).trans (k3.mono fun q hq => by have := hq.1; omega)
    have r3 := p0 kk (t2.keep k3 (by omega))
    refine (atom_J1 hT r3 (by omega) hat1 (s := s) (p := H.n) upd_self).imp fun y hy => ?_
    simp only [stG g2 (SC_len _) (SC_len _) (SC_one _), ruP]
    exact hy
  have e40 := fun hne => takes_no (E := noExt) (c := 40) rfl rfl t1 (by omega) (hhne 40 hne)
  have e46 := fun hne => takes_no (E := noExt) (c := 46) rfl rfl t1 (by omega) (hhne 46 hne)
  have e91 := fun hne => takes_no (E := noExt) (c := 91) rfl rfl t1 (by omega) (hhne 91 hne)
  have pk := put_keep (H := H1) (b := b) (T := T) (v := vl) (at_ + 1)
  rw [hd, atomR_cons]
  by_cases h40 : x.toNat = 40
  · rw [if_pos h40]
    have hy := takes_yes (E := noExt) (c := 40) rfl rfl t1 (by omega) hbig (by rw [hh, h40])
    have rp := p0 (k01.trans (pk.mono (but_up k01.1))) (t1.put (at_ + 1))
    have hV := iv rp (by omega) (by omega) (by omega)
    cases hw : waysR f ((U T).drop (at_ + 1)) with
    | error e =>
      rw [hw] at hV
      obtain ⟨at', H', q1, q2, q3, q4⟩ := hV
      refine ⟨at', H', q1, q2, Ev.enter (fun n => f94_eqP n _ _) ?_, q4⟩
      simp only [f94, ruA, ruB, ruC, ruE, ruD, lenStr, Int.reduceBEq, Int.reduceBNe, ruP, nv]
      refine callQ_of hy (by kernel_rfl) rfl ?_
      simp only [ruA, ruB, ruC, ruE, ruD, lenStr, Int.reduceBEq, Int.reduceBNe, ruP]
      exact Ev.panQ q3 rfl
    | ok p =>
      obtain ⟨t, r2⟩ := p
      rw [hw] at hV
      obtain ⟨at2, H2, q1, rfl, q3, q4⟩ := hV
      obtain ⟨vl2, t2, p2⟩ := q4.text
      simp only
      by_cases hc2 : ((U T).drop at2).head? = some 41
      · rw [if_pos hc2, U_tail]
        have hl2 : at2 < T.length := by
          rcases Nat.lt_or_ge at2 T.length with hh | hh
          · exact hh
          · rw [U_drop_end hh] at hc2; cases hc2
        have hy2 := takes_yes (E := noExt) (c := 41) rfl rfl t2 q1 hbig hc2
        refine ⟨at2 + 1, put H2 b T (at2 + 1) vl2, hl2, rfl, Ev.enter (fun n => f94_eqP n _ _) ?_, p2 (put_keep _) (t2.put _)⟩
        simp only [f94, ruA, ruB, ruC, ruE, ruD, lenStr, Int.reduceBEq, Int.reduceBNe, ruP, nv]
        refine callQ_of hy (by kernel_rfl) rfl ?_
        simp only [ruA, ruB, ruC, ruE, ruD, lenStr, Int.reduceBEq, Int.reduceBNe, ruP]
        refine Ev.callQ q3 rfl ?_
        refine callQ_of hy2 (by kernel_rfl) rfl ?_
        simp only [ruA, ruB, ruC, ruE, ruD, lenStr, Int.reduceBEq, Int.reduceBNe, ruP]
        exact Ev.pure _
      · rw [if_neg hc2]
        have hn2 := takes_no (E := noExt) (c := 41) rfl rfl t2 q1 hc2
        refine ⟨at2, H2, q1, rfl, Ev.enter (fun n => f94_eqP n _ _) ?_, q4.under (Keep.refl _ _)⟩
        simp only [f94, ruA, ruB, ruC, ruE, ruD, lenStr, Int.reduceBEq, Int.reduceBNe, ruP, nv]
        refine callQ_of hy (by kernel_rfl) rfl ?_
        simp only [ruA, ruB, ruC, ruE, ruD, lenStr, Int.reduceBEq, Int.reduceBNe, ruP]
        refine Ev.callQ q3 rfl ?_
        refine callQ_of hn2 (by kernel_rfl) rfl ?_
        simp only [ruA, ruB, ruC, ruE, ruD, lenStr, Int.reduceBEq, Int.reduceBNe, ruP]
        exact Ev.panQ (fail_cl t2) rfl
  · rw [if_neg h40]
    by_cases h46 : x.toNat = 46
    · rw [if_pos h46]
      have hy := takes_yes (E := noExt) (c := 46) rfl rfl t1 (by omega) hbig (by rw [hh, h46])
      obtain ⟨H3, hH3⟩ : ∃ H3, (put H1 b T (at_ + 1) vl).push ⟨B [10], 1, true⟩ = H3 := ⟨_, rfl⟩
      have kp3 : Keep (all (put H1 b T (at_ + 1) vl)) (put H1 b T (at_ + 1) vl) H3 := by rw [← hH3]; exact push_keep
      have hs : Sl (all H3) H3 1 (.slice (some ⟨(put H1 b T (at_ + 1) vl).n, 0, none⟩) 1 1) ([10] : List Nat).length (B [10]) := by
        rw [← hH3]; exact push_Sl (d := [10]) (by simp [all, push_n])
      obtain ⟨H4, c4, k4⟩ := sof_ok (E := noExt) rfl hs (by simp) (by simp)
      obtain ⟨H5, c5, k5⟩ := snot_ok (E := noExt) (H := H4) rfl (ofS [10])
      have kk : Keep (all (put H1 b T (at_ + 1) vl)) (put H1 b T (at_ + 1) vl) H5 := (kp3.trans (k4.mono (upA kp3))).trans (k5.mono (upA (kp3.trans (k4.mono (upA kp3)))))
      refine (fin (s := notS (ofS [10])) (pk.trans (kk.mono fun q hq => hq.1)) ((t1.put (at_ + 1)).keep kk (t1.put (at_ + 1)).1) hsp).imp fun y hy2 => Ev.enter (fun n => f94_eqP n _ _) ?_
      have bl : bldS 1 1 [.int .u8 0] [(0, 1, .int .u8 10)] (put H1 b T (at_ + 1) vl) = some (.slice (some ⟨(put H1 b T (at_ + 1) vl).n, 0, none⟩) 1 1, H3) := by rw [bld1 rfl rfl, ← hH3]; rfl
      simp only [f94, ruA, ruB, ruC, ruE, ruD, lenStr, Int.reduceBEq, Int.reduceBNe, ruP, nv]
      refine callQ_of (e40 h40) (by kernel_rfl) rfl ?_
      simp only [ruA, ruB, ruC, ruE, ruD, lenStr, Int.reduceBEq, Int.reduceBNe, ruP]
      refine callQ_of hy (by kernel_rfl) rfl ?_
      simp only [ruA, ruB, ruC, ruE, ruD, lenStr, Int.reduceBEq, Int.reduceBNe, ruP, bl]
      refine callQ_of c4 (by kernel_rfl) rfl ?_
      refine callQ_of c5 (by kernel_rfl) rfl ?_
      exact hy2
    · rw [if_neg h46]
      by_cases h91 : x.toNat = 91
      · rw [if_pos h91]
        have hy := takes_yes (E := noExt) (c := 91) rfl rfl t1 (by omega) hbig (by rw [hh, h91])
        have hC := class_ok hT (t1.put (at_ + 1)) hsp ((hLH.keep pk).mono (but_up pk.1))
        cases hcl : clsR ((U T).drop (at_ + 1)) with
        | error e =>
          rw [hcl] at hC
          obtain ⟨at', H', q1, q2, q3, q4⟩ := hC
          refine ⟨at', H', q1, q2, Ev.enter (fun n => f94_eqP n _ _) ?_, h.under ((k01.trans (pk.mono (but_up k01.1))).trans (q4.mono (but_up (k01.trans (pk.mono (but_up k01.1))).1)))⟩
          simp only [f94, ruA, ruB, ruC, ruE, ruD, lenStr, Int.reduceBEq, Int.reduceBNe, ruP, nv]
          refine callQ_of (e40 h40) (by kernel_rfl) rfl ?_
          simp only [ruA, ruB, ruC, ruE, ruD, lenStr, Int.reduceBEq, Int.reduceBNe, ruP]
          refine callQ_of (e46 h46) (by kernel_rfl) rfl ?_
          simp only [ruA, ruB, ruC, ruE, ruD, lenStr, Int.reduceBEq, Int.reduceBNe, ruP]
          refine callQ_of hy (by kernel_rfl) rfl ?_
          simp only [ruA, ruB, ruC, ruE, ruD, lenStr, Int.reduceBEq, Int.reduceBNe, ruP]
          exact Ev.panQ q3 rfl
        | ok p =>
          obtain ⟨s, r2⟩ := p
          rw [hcl] at hC
          obtain ⟨at2, H2, q1, rfl, q3, q4, t2⟩ := hC
          refine (fin (s := s) (pk.trans (q4.mono (but_up pk.1))) t2 q1).imp fun y hy2 => Ev.enter (fun n => f94_eqP n _ _) ?_
          simp only [f94, ruA, ruB, ruC, ruE, ruD, lenStr, Int.reduceBEq, Int.reduceBNe, ruP, nv]
          refine callQ_of (e40 h40) (by kernel_rfl) rfl ?_
          simp only [ruA, ruB, ruC, ruE, ruD, lenStr, Int.reduceBEq, Int.reduceBNe, ruP]
          refine callQ_of (e46 h46) (by kernel_rfl) rfl ?_
          simp only [ruA, ruB, ruC, ruE, ruD, lenStr, Int.reduceBEq, Int.reduceBNe, ruP]
          refine callQ_of hy (by kernel_rfl) rfl ?_
          simp only [ruA, ruB, ruC, ruE, ruD, lenStr, Int.reduceBEq, Int.reduceBNe, ruP]
          refine Ev.callQ q3 rfl ?_
          exact hy2
      · rw [if_neg h91]
        have hC := letter_ok hT (fun c => signs_mem) t1 (by omega) hLH
        rw [hd] at hC
        cases hcl : letR signsL (x.toNat :: (U T).drop (at_ + 1)) with
        | error e =>
          rw [hcl] at hC
          obtain ⟨at', H', q1, q2, q3, q4⟩ := hC
          refine ⟨at', H', q1, q2, Ev.enter (fun n => f94_eqP n _ _) ?_, h.under (k01.trans (q4.mono (but_up k01.1)))⟩
          simp only [f94, ruA, ruB, ruC, ruE, ruD, lenStr, Int.reduceBEq, Int.reduceBNe, ruP, nv]
          refine callQ_of (e40 h40) (by kernel_rfl) rfl ?_
          simp only [ruA, ruB, ruC, ruE, ruD, lenStr, Int.reduceBEq, Int.reduceBNe, ruP]
          refine callQ_of (e46 h46) (by kernel_rfl) rfl ?_
          simp only [ruA, ruB, ruC, ruE, ruD, lenStr, Int.reduceBEq, Int.reduceBNe, ruP]
          refine callQ_of (e91 h91) (by kernel_rfl) rfl ?_
          simp only [ruA, ruB, ruC, ruE, ruD, lenStr, Int.reduceBEq, Int.reduceBNe, ruP]
          exact Ev.panQ q3 rfl
        | ok p =>
          obtain ⟨c, r2⟩ := p
          rw [hcl] at hC
          obtain ⟨at2, H2, q1, rfl, q3, q4, t2⟩ := hC
          have hc256 : c < 256 := (letR_ok hcl (by rw [← hd]; exact U_byte')).1
          obtain ⟨H3, hH3⟩ : ∃ H3, H2.push ⟨B [c], 1, true⟩ = H3 := ⟨_, rfl⟩
          have kp3 : Keep (all H2) H2 H3 := by rw [← hH3]; exact push_keep
          have hs : Sl (all H3) H3 1 (.slice (some ⟨H2.n, 0, none⟩) 1 1) ([c] : List Nat).length (B [c]) := by
            rw [← hH3]; exact push_Sl (d := [c]) (by simp [all, push_n])
          obtain ⟨H4, c4, k4⟩ := sof_ok (E := noExt) rfl hs (by simpa using hc256) (by simp)
          have kk : Keep (all H2) H2 H4 := kp3.trans (k4.mono (upA kp3))
          refine (fin (s := ofS [c]) (q4.trans (kk.mono fun q hq => Nat.lt_of_lt_of_le hq.1 q4.1)) (t2.keep kk t2.1) q1).imp fun y hy2 => Ev.enter (fun n => f94_eqP n _ _) ?_
          have bl : bldS 1 1 [.int .u8 0] [(0, 1, .int .u8 (c : Int))] H2 = some (.slice (some ⟨H2.n, 0, none⟩) 1 1, H3) := by rw [bld1 rfl rfl, ← hH3]; rfl
          simp only [f94, ruA, ruB, ruC, ruE, ruD, lenStr, Int.reduceBEq, Int.reduceBNe, ruP, nv]
          refine callQ_of (e40 h40) (by kernel_rfl) rfl ?_
          simp only [ruA, ruB, ruC, ruE, ruD, lenStr, Int.reduceBEq, Int.reduceBNe, ruP]
          refine callQ_of (e46 h46) (by kernel_rfl) rfl ?_
          simp only [ruA, ruB, ruC, ruE, ruD, lenStr, Int.reduceBEq, Int.reduceBNe, ruP]
          refine callQ_of (e91 h91) (by kernel_rfl) rfl ?_
          simp only [ruA, ruB, ruC, ruE, ruD, lenStr, Int.reduceBEq, Int.reduceBNe, ruP]
          refine Ev.callQ q3 rfl ?_
          simp only [ruA, ruB, ruC, ruE, ruD, lenStr, Int.reduceBEq, Int.reduceBNe, ruP, bl]
          refine callQ_of c4 (by kernel_rfl) rfl ?_
          exact hy2
end
end Go.Eng

set_option linter.unusedVariables false
set_option linter.unusedSimpArgs false
set_option linter.unusedSectionVars false
set_option maxRecDepth 100000
namespace Go.Eng
open Go Go.Proofs

section
variable {H0 : Heap} {b : Nat} {T : List UInt8} (hT : T.length ≤ 1024) (hL : Lt (all H0) H0)
def stopB (r : List Nat) : Bool := decide (r = [] ∨ r.head? = some 124 ∨ r.head? = some 41)
include hT
theorem way_pre {H : Heap} {at_ : Nat} {vl x3 : Value} (t1 : TB H b T at_ vl) (hat : at_ ≤ T.length) (y : Value × Heap)
    (hy : Ev (fun n m => iff (.bool (!stopB ((U T).drop at_)))
      (bndP (AP n 83 [ptr b 0] H) fun x32_48 H49 =>
      bndP (up (binB Tryd.prog .geq 3 x3 (.int .i64 0)) H49) fun x34_50 H51 =>
      iff x34_50
      (bndP (bld [.int .i64 0, .int .u64 0, .int .u64 0, .int .u64 0, .int .u64 0, .int .i64 0, .int .i64 0] [(0, 1, .int .i64 3), (5, 1, x3), (6, 1, x32_48)] H51) fun x38_52 H53 =>
       bndP (AP n 68 [ptr b 0, x38_52] H53) fun x39_54 H55 =>
       f66_L0 realP (AP n) n m (ptr b 0) x39_54 H55)
      (f66_L0 realP (AP n) n m (ptr b 0) x32_48 H51))
     (bndP (up (binB Tryd.prog .lss 3 x3 (.int .i64 0)) H) fun x42_59 H60 =>
      iff x42_59
      (bndP (bld [.int .i64 0, .int .u64 0, .int .u64 0, .int .u64 0, .int .u64 0, .int .i64 0, .int .i64 0] [(0, 1, .int .i64 1)] H60) fun x44_61 H62 =>
       bndP (AP n 68 [ptr b 0, x44_61] H62) fun x45_63 H64 =>
       some (x45_63, H64))
      (some (x3, H60)))) y) : Ev (fun n m => f66_L0 realP (AP n) n m (ptr b 0) x3 H) y := by
  refine Ev.step (fun n m => f66_L0.eq_2 _ _ _ _ _ _ m) ?_
  by_cases hl : at_ < T.length
  · obtain ⟨x, hx⟩ := at_some hl
    have hd := U_drop_at hx
    have s1 := sees_ok (E := noExt) rfl t1 hat 124
    have s2 := sees_ok (E := noExt) rfl t1 hat 41
    have hh : ∀ k, (((U T).drop at_).head? = some k) = (x.toNat = k) := fun k => by rw [hd]; simp
    by_cases h1 : x.toNat = 124
    · rw [decide_eq_true (show ((U T).drop at_).head? = some 124 by rw [hh]; exact h1)] at s1
      have es : stopB ((U T).drop at_) = true := decide_eq_true (.inr (.inl (by rw [hh]; exact h1)))
      rw [es] at hy
      simp only [ruA, ruB, ruC, ruE, ruD, lenStr, Int.reduceBEq, Int.reduceBNe, ruP, t1.ld0, t1.ld1, bs_size, idx_lt hl]
      refine callQ_of s1 (by kernel_rfl) rfl ?_
      simp only [ruA, ruB, ruC, ruE, ruD, lenStr, Int.reduceBEq, Int.reduceBNe, ruP, Bool.or_true]
      simpa only [ruA, ruB, ruC, ruE, ruD, lenStr, Int.reduceBEq, Int.reduceBNe, ruP] using hy
    · rw [decide_eq_false (show ¬ ((U T).drop at_).head? = some 124 by rw [hh]; exact h1)] at s1
      by_cases h2 : x.toNat = 41
      · rw [decide_eq_true (show ((U T).drop at_).head? = some 41 by rw [hh]; exact h2)] at s2
        have es : stopB ((U T).drop at_) = true := decide_eq_true (.inr (.inr (by rw [hh]; exact h2)))
        rw [es] at hy
        simp only [ruA, ruB, ruC, ruE, ruD, lenStr, Int.reduceBEq, Int.reduceBNe, ruP, t1.ld0, t1.ld1, bs_size, idx_lt hl]
        refine callQ_of s1 (by kernel_rfl) rfl ?_
        simp only [ruA, ruB, ruC, ruE, ruD, lenStr, Int.reduceBEq, Int.reduceBNe, ruP, Bool.or_true]
        refine callQ_of s2 (by kernel_rfl) rfl ?_
        simp only [ruA, ruB, ruC, ruE, ruD, lenStr, Int.reduceBEq, Int.reduceBNe, ruP, Bool.or_true]
        simpa only [ruA, ruB, ruC, ruE, ruD, lenStr, Int.reduceBEq, Int.reduceBNe, ruP] using hy
      · rw [decide_eq_false (show ¬ ((U T).drop at_).head? = some 41 by rw [hh]; exact h2)] at s2
        have es : stopB ((U T).drop at_) = false := decide_eq_false (by rw [hh, hh, hd]; simp [h1, h2])
        rw [es] at hy
        simp only [ruA, ruB, ruC, ruE, ruD, lenStr, Int.reduceBEq, Int.reduceBNe, ruP, t1.ld0, t1.ld1, bs_size, idx_lt hl]
        refine callQ_of s1 (by kernel_rfl) rfl ?_
        simp only [ruA, ruB, ruC, ruE, ruD, lenStr, Int.reduceBEq, Int.reduceBNe, ruP, Bool.or_true]
        refine callQ_of s2 (by kernel_rfl) rfl ?_
        simp only [ruA, ruB, ruC, ruE, ruD, lenStr, Int.reduceBEq, Int.reduceBNe, ruP, Bool.or_true]
        simpa only [ruA, ruB, ruC, ruE, ruD, lenStr, Int.reduceBEq, Int.reduceBNe, ruP] using hy
  · have e0 : (U T).drop at_ = [] := U_drop_end (by omega)
    have es : stopB ((U T).drop at_) = true := decide_eq_true (.inl e0)
    rw [es] at hy
    simp only [ruA, ruB, ruC, ruE, ruD, lenStr, Int.reduceBEq, Int.reduceBNe, ruP, t1.ld0, t1.ld1, bs_size, idx_ge (show T.length ≤ at_ by omega), Bool.or_true]
    simpa only [ruA, ruB, ruC, ruE, ruD, lenStr, Int.reduceBEq, Int.reduceBNe, ruP] using hy
end
end Go.Eng

set_option linter.unusedVariables false
set_option linter.unusedSimpArgs false
set_option linter.unusedSectionVars false
set_option maxRecDepth 100000
namespace Go.Eng
open Go Go.Proofs

theorem wayL_step (f : Nat) (x : Option Rx) (r : List Nat) : wayL (f + 1) x r =
    if stopB r = true then .ok (x.getD .nil, r) else
    match atomR f r with
    | .error e => .error e
    | .ok (t, r1) => wayL f (some (match x with | none => (postR t r1).1 | some x => .seq x (postR t r1).1)) (postR t r1).2 := by
  rw [wayL.eq_def]
  simp only [stopB, decide_eq_true_eq]
  rfl
theorem waysL_step (f : Nat) (x : Rx) (r : List Nat) : waysL (f + 1) x r =
    if r.head? = some 124 then (match wayL f none r.tail with | .error e => .error e | .ok (y, r1) => waysL f (.alt x y) r1) else .ok (x, r) := by
  rw [waysL.eq_def]
  rfl
theorem waysR_step (f : Nat) (r : List Nat) : waysR (f + 1) r = match wayL f none r with | .error e => .error e | .ok (x, r1) => waysL f x r1 := by
  rw [waysR.eq_def]
  rfl
section
variable {H0 : Heap} {b : Nat} {T : List UInt8} (hT : T.length ≤ 1024) (hL : Lt (all H0) H0)
include hT hL
theorem read_ok : ∀ (f : Nat),
    (∀ {l : List Nd} {at_ : Nat} {H : Heap}, RB H0 H b T at_ l → at_ < T.length → 4 * (T.length - at_) + 1 ≤ f → l.length + 2 * (T.length - at_) ≤ 80000 → RdX (fun n _ => AP n 94 [ptr b 0] H) H0 b T l (atomR f ((U T).drop at_))) ∧
    (∀ {l : List Nd} {x : Option Rx} {at_ : Nat} {H : Heap}, RB H0 H b T at_ (nodesOf l x) → at_ ≤ T.length → 4 * (T.length - at_) + 2 ≤ f → l.length + szO x + 2 * (T.length - at_) + 1 ≤ 80000 → RdX (fun n m => f66_L0 realP (AP n) n m (ptr b 0) (.int .i64 (idxO l x)) H) H0 b T l (wayL f x ((U T).drop at_))) ∧
    (∀ {l : List Nd} {x : Rx} {at_ : Nat} {H : Heap}, RB H0 H b T at_ (l ++ x.flat l.length) → at_ ≤ T.length → 4 * (T.length - at_) + 3 ≤ f → l.length + x.size + 2 * (T.length - at_) ≤ 80000 → RdX (fun n m => f46_L0 realP (AP n) n m (ptr b 0) (.int .i64 ((l.length + x.size - 1 : Nat) : Int)) H) H0 b T l (waysL f x ((U T).drop at_))) ∧
    (∀ {l : List Nd} {at_ : Nat} {H : Heap}, RB H0 H b T at_ l → at_ ≤ T.length → 4 * (T.length - at_) + 4 ≤ f → l.length + 2 * (T.length - at_) + 1 ≤ 80000 → RdX (fun n _ => AP n 46 [ptr b 0] H) H0 b T l (waysR f ((U T).drop at_))) := by
  have way_of : ∀ {l : List Nd} {H : Heap} {r : Rd Rx}, RdX (fun n m => f66_L0 realP (AP n) n m (ptr b 0) (.int .i64 (-1)) H) H0 b T l r → RdX (fun n _ => AP n 66 [ptr b 0] H) H0 b T l r := fun {l H r} h => h.imp fun y hy => by
    refine Ev.enter (fun n => f66_eqP n _ _) ?_
    simp only [f66]
    exact Ev.loop hy
  intro f
  induction f with
  | zero => exact ⟨fun _ _ h => by omega, fun _ _ h => by omega, fun _ _ h => by omega, fun _ _ h => by omega⟩
  | succ f ih =>
    obtain ⟨ia, iw, il, iv⟩ := ih
    refine ⟨fun {l at_ H} h hat hf hB => atom_step hT hL iv h hat hf hB, fun {l x at_ H} h hat hf hB => ?_, fun {l x at_ H} h hat hf hB => ?_, fun {l at_ H} h hat hf hB => ?_⟩
    · obtain ⟨vl, t1, p1⟩ := h.text
      rw [wayL_step]
      cases hs : stopB ((U T).drop at_) with
      | true =>
        rw [if_pos rfl]
        cases x with
        | none =>
          obtain ⟨H1, c1, r1⟩ := add_ok (l := l) h (by omega) ⟨1, 0, 0, 0⟩
          refine ⟨at_, H1, hat, rfl, way_pre hT t1 hat _ ?_, r1⟩
          rw [hs]
          have e : ((-1 : Int) < 0) = True := by simp
          simp only [ruA, ruB, ruC, ruE, ruD, lenStr, Int.reduceBEq, Int.reduceBNe, ruP, idxO, e, nd_nil]
          refine callQ_of c1 (by kernel_rfl) rfl ?_
          exact Ev.pure _
        | some x =>
          refine ⟨at_, H, hat, rfl, way_pre hT t1 hat _ ?_, h⟩
          rw [hs]
          have e : (((l.length + x.size - 1 : Nat) : Int) < 0) = False := eq_false (by omega)
          simp only [ruA, ruB, ruC, ruE, ruD, lenStr, Int.reduceBEq, Int.reduceBNe, ruP, idxO, e]
          exact Ev.pure _
      | false =>
        rw [if_neg (by simp)]
        have hl : at_ < T.length := by
          rcases Nat.lt_or_ge at_ T.length with hh | hh
          · exact hh
          · rw [U_drop_end hh] at hs; cases hs
        have hln : (nodesOf l x).length = l.length + szO x := by
          cases x with
          | none => rfl
          | some x => simp [nodesOf, szO, Rx.flat_len]
        have hA := ia h hl (by omega) (by rw [hln]; omega)
        have hP := piece_of hT (rest := 0) hA fun t r' hr => by
          have := ((read_len f).1 hr)
          rw [List.length_drop, U_len'] at this
          rw [hln]; omega
        cases ha : atomR f ((U T).drop at_) with
        | error e =>
          rw [ha] at hP
          obtain ⟨at', H', q1, q2, q3, q4⟩ := hP
          refine ⟨at', H', q1, q2, way_pre hT t1 hat _ ?_, q4⟩
          rw [hs]
          simp only [ruA, ruB, ruC, ruE, ruD, lenStr, Int.reduceBEq, Int.reduceBNe, ruP]
          exact Ev.panQ q3 rfl
        | ok p =>
          obtain ⟨t, r1⟩ := p
          have hlen := (read_len f).1 ha
          rw [List.length_drop, U_len'] at hlen
          rw [ha] at hP
          have hpl := postR_len r1 t
          obtain ⟨t', r2, hpr⟩ : ∃ t' r2, postR t r1 = (t', r2) := ⟨_, _, rfl⟩
          simp only [pieceQ, hpr] at hP
          obtain ⟨at2, H2, q1, rfl, q3, q4⟩ := hP
          simp only [hpr] at hpl ⊢
          rw [List.length_drop, U_len'] at hpl
          have hsz := t'.size_pos
          cases x with
          | none =>
            have hn := iw (l := l) (x := some t') (at_ := at2) (H := H2) q4 q1 (by omega) (by simp only [szO] at hB ⊢; omega)
            refine hn.imp fun y hy => way_pre hT t1 hat _ ?_
            rw [hs]
            have e : ((-1 : Int) ≥ 0) = False := by simp
            simp only [ruA, ruB, ruC, ruE, ruD, lenStr, Int.reduceBEq, Int.reduceBNe, ruP, idxO]
            refine Ev.callQ q3 rfl ?_
            simp only [ruA, ruB, ruC, ruE, ruD, lenStr, Int.reduceBEq, Int.reduceBNe, ruP, e]
            exact hy
          | some x =>
            have hxs := x.size_pos
            simp only [szO] at hB hln
            obtain ⟨H3, c3, r3⟩ := add_ok q4 (by rw [List.length_append, Rx.flat_len, hln]; omega) ⟨3, 0, ((l.length + x.size - 1 : Nat) : Int), ((l.length + x.size + t'.size - 1 : Nat) : Int)⟩
            have e4 : (nodesOf l (some x) ++ t'.flat (nodesOf l (some x)).length) ++ [(⟨3, 0, ((l.length + x.size - 1 : Nat) : Int), ((l.length + x.size + t'.size - 1 : Nat) : Int)⟩ : Nd)] = nodesOf l (some (.seq x t')) := by
              rw [hln]; simp [nodesOf, Rx.flat]
            rw [e4] at r3
            have hn := iw (l := l) (x := some (.seq x t')) (at_ := at2) (H := H3) r3 q1 (by omega) (by simp only [szO, Rx.size]; omega)
            refine hn.imp fun y hy => way_pre hT t1 hat _ ?_
            rw [hs]
            have e : (((l.length + x.size - 1 : Nat) : Int) ≥ 0) = True := eq_true (by omega)
            have e5 : ((nodesOf l (some x) ++ t'.flat (nodesOf l (some x)).length).length : Int) = ((l.length + (Rx.seq x t').size - 1 : Nat) : Int) := by
              rw [List.length_append, Rx.flat_len, hln]; simp [Rx.size]; omega
            rw [e5] at c3
            rw [hln] at q3
            simp only [ruA, ruB, ruC, ruE, ruD, lenStr, Int.reduceBEq, Int.reduceBNe, ruP, idxO]
            refine Ev.callQ q3 rfl ?_
            simp only [ruA, ruB, ruC, ruE, ruD, lenStr, Int.reduceBEq, Int.reduceBNe, ruP, e, nd_two]
            refine callQ_of c3 (by kernel_rfl) rfl ?_
            exact hy
    · obtain ⟨vl, t1, p1⟩ := h.text
      have hxs := x.size_pos
      rw [waysL_step]
      by_cases hm : ((U T).drop at_).head? = some 124
      · rw [if_pos hm, U_tail]
        have hl : at_ < T.length := by
          rcases Nat.lt_or_ge at_ T.length with hh | hh
          · exact hh
          · rw [U_drop_end hh] at hm; cases hm
        have hy := takes_yes (E := noExt) rfl rfl t1 hat (by omega) hm
        have rp := p1 (put_keep (at_ + 1)) (t1.put (at_ + 1))
        have hll : (l ++ x.flat l.length).length = l.length + x.size := by rw [List.length_append, Rx.flat_len]
        have hW := way_of (iw (l := l ++ x.flat l.length) (x := none) rp (by omega) (by omega) (by rw [hll]; simp only [szO]; omega))
        cases hw : wayL f none ((U T).drop (at_ + 1)) with
        | error e =>
          rw [hw] at hW
          obtain ⟨at', H', q1, q2, q3, q4⟩ := hW
          refine ⟨at', H', q1, q2, Ev.step (fun n m => f46_L0.eq_2 _ _ _ _ _ _ m) ?_, q4⟩
          simp only [ruA, ruB, ruC, ruE, ruD, lenStr, Int.reduceBEq, Int.reduceBNe, ruP]
          refine callQ_of hy (by kernel_rfl) rfl ?_
          simp only [ruA, ruB, ruC, ruE, ruD, lenStr, Int.reduceBEq, Int.reduceBNe, ruP]
          exact Ev.panQ q3 rfl
        | ok p =>
          obtain ⟨t, r1⟩ := p
          have hlen := (read_len f).2.1 hw
          rw [List.length_drop, U_len'] at hlen
          rw [hw] at hW
          obtain ⟨at2, H2, q1, rfl, q3, q4⟩ := hW
          rw [List.length_drop, U_len'] at hlen
          simp only at hlen
          have hts := t.size_pos
          obtain ⟨H3, c3, r3⟩ := add_ok q4 (by rw [List.length_append, Rx.flat_len, hll]; omega) ⟨4, 0, ((l.length + x.size - 1 : Nat) : Int), ((l.length + x.size + t.size - 1 : Nat) : Int)⟩
          have e4 : ((l ++ x.flat l.length) ++ t.flat (l ++ x.flat l.length).length) ++ [(⟨4, 0, ((l.length + x.size - 1 : Nat) : Int), ((l.length + x.size + t.size - 1 : Nat) : Int)⟩ : Nd)] = l ++ (Rx.alt x t).flat l.length := by
            rw [hll]; simp [Rx.flat]
          rw [e4] at r3
          have e5 : (((l ++ x.flat l.length) ++ t.flat (l ++ x.flat l.length).length).length : Int) = ((l.length + (Rx.alt x t).size - 1 : Nat) : Int) := by
            rw [List.length_append, Rx.flat_len, hll]; simp [Rx.size]; omega
          rw [e5] at c3
          rw [hll] at q3
          refine (il (l := l) (x := .alt x t) r3 q1 (by omega) (by simp only [Rx.size]; omega)).imp fun y hy2 => Ev.step (fun n m => f46_L0.eq_2 _ _ _ _ _ _ m) ?_
          simp only [ruA, ruB, ruC, ruE, ruD, lenStr, Int.reduceBEq, Int.reduceBNe, ruP]
          refine callQ_of hy (by kernel_rfl) rfl ?_
          simp only [ruA, ruB, ruC, ruE, ruD, lenStr, Int.reduceBEq, Int.reduceBNe, ruP]
          refine Ev.callQ q3 rfl ?_
          simp only [ruA, ruB, ruC, ruE, ruD, lenStr, Int.reduceBEq, Int.reduceBNe, ruP, nd_two]
          refine callQ_of c3 (by kernel_rfl) rfl ?_
          exact hy2
      · rw [if_neg hm]
        have hn := takes_no (E := noExt) rfl rfl t1 hat hm
        refine ⟨at_, H, hat, rfl, Ev.step (fun n m => f46_L0.eq_2 _ _ _ _ _ _ m) ?_, h⟩
        simp only [ruA, ruB, ruC, ruE, ruD, lenStr, Int.reduceBEq, Int.reduceBNe, ruP]
        refine callQ_of hn (by kernel_rfl) rfl ?_
        simp only [ruA, ruB, ruC, ruE, ruD, lenStr, Int.reduceBEq, Int.reduceBNe, ruP]
        exact Ev.pure _
    · rw [waysR_step]
      have hW := way_of (iw (l := l) (x := none) h hat (by omega) (by simp only [szO]; omega))
      cases hw : wayL f none ((U T).drop at_) with
      | error e =>
        rw [hw] at hW
        obtain ⟨at', H', q1, q2, q3, q4⟩ := hW
        refine ⟨at', H', q1, q2, Ev.enter (fun n => f46_eqP n _ _) ?_, q4⟩
        simp only [f46, ruP]
        exact Ev.panQ q3 rfl
      | ok p =>
        obtain ⟨t, r1⟩ := p
        have hlen := (read_len f).2.1 hw
        rw [List.length_drop, U_len'] at hlen
        rw [hw] at hW
        obtain ⟨at2, H2, q1, rfl, q3, q4⟩ := hW
        rw [List.length_drop, U_len'] at hlen
        simp only at hlen
        refine (il (l := l) (x := t) q4 q1 (by omega) (by omega)).imp fun y hy => Ev.enter (fun n => f46_eqP n _ _) ?_
        simp only [f46, ruP]
        refine Ev.callQ q3 rfl ?_
        exact Ev.loop hy
end
end Go.Eng
