import Derived.Test.YtimhmmeoliagjaaDoorQF
set_option linter.unusedVariables false
set_option linter.unusedSimpArgs false
set_option linter.unusedSectionVars false
set_option maxRecDepth 100000
namespace Go.Eng
open Go Go.Proofs

def LTC : List Value := [.int .u8 110, .int .u8 10, .int .u8 116, .int .u8 9, .int .u8 114, .int .u8 13]
def Lt (R : Nat → Prop) (H : Heap) : Prop := ∃ v s o, R 0 ∧ H.get 0 = some ⟨[v], s, o⟩ ∧ Sl R H 2 v 3 LTC
theorem Lt.keep {R : Nat → Prop} {H H' : Heap} (h : Lt R H) (k : Keep R H H') : Lt R H' := by
  obtain ⟨v, s, o, h0, h1, h2⟩ := h
  exact ⟨v, s, o, h0, by rw [k.2 0 h0]; exact h1, h2.keep k⟩
theorem Lt.mono {R R' : Nat → Prop} {H : Heap} (h : Lt R H) (hR : ∀ b, R b → R' b) : Lt R' H := by
  obtain ⟨v, s, o, h0, h1, h2⟩ := h
  exact ⟨v, s, o, hR 0 h0, h1, h2.mono hR⟩
def escC (c : Nat) (r : List Nat) : Rd Nat := if c = 110 then .ok (10, r) else if c = 116 then .ok (9, r) else if c = 114 then .ok (13, r) else if c ∈ escL then .ok (c, r) else if c = 120 then hex2 r else .error (c :: r)
theorem escR_cons (c : Nat) (r : List Nat) : escR (c :: r) = escC c r := rfl
section
variable {b : Nat} {T : List UInt8} {v : Value} (hT : T.length ≤ 1024)
include hT
theorem esc_round {H : Heap} {vs : Value} {at_ j c a i : Nat} (h : TB H b T at_ v) (hat : at_ < T.length) (hs : Sl (But H b) H 2 vs 3 LTC) (hj : j < 3) (hc : cut LTC (j * 2) 2 = [.int .u8 (a : Int), .int .u8 (i : Int)]) :
    (c = a → Ev (fun n m => f103_L0 realP (AP n) n m (ptr b 0) (.int .u8 (c : Int)) vs (.int .i64 3) (.int .i64 (j : Int)) H) (.int .u8 (i : Int), put (H.push ⟨[.int .u8 (a : Int), .int .u8 (i : Int)], 1, true⟩) b T (at_ + 1) v)) ∧
    (c ≠ a → ∀ x, Ev (fun n m => f103_L0 realP (AP n) n m (ptr b 0) (.int .u8 (c : Int)) vs (.int .i64 3) (.int .i64 ((j + 1 : Nat) : Int)) (H.push ⟨[.int .u8 (a : Int), .int .u8 (i : Int)], 1, true⟩)) x → Ev (fun n m => f103_L0 realP (AP n) n m (ptr b 0) (.int .u8 (c : Int)) vs (.int .i64 3) (.int .i64 (j : Int)) H) x) := by
  obtain ⟨p, o, p1, _, _, p2⟩ := hs.atN hj
  rw [hc] at p2
  have e3 : ((j : Int) < 3) = True := eq_true (by omega)
  obtain ⟨H1, hH1⟩ : ∃ H1, H.push ⟨[.int .u8 (a : Int), .int .u8 (i : Int)], 1, true⟩ = H1 := ⟨_, rfl⟩
  have g1 : H1.get H.n = some ⟨[.int .u8 (a : Int), .int .u8 (i : Int)], 1, true⟩ := by rw [← hH1]; exact push_self
  have h1 : TB H1 b T at_ v := by rw [← hH1]; exact h.keep push_keep h.1
  have nv : newV [.int .u8 0, .int .u8 0] H = some (ptr H.n 0, H.push ⟨[.int .u8 0, .int .u8 0], 1, true⟩) := newV_box rfl
  have st : stV 2 (ptr H.n 0) (.agg [.int .u8 (a : Int), .int .u8 (i : Int)].toArray) (H.push ⟨[.int .u8 0, .int .u8 0], 1, true⟩) = some (undef, H1) := by rw [← hH1]; exact stA_push (cs := [.int .u8 0, .int .u8 0]) (ds := [.int .u8 (a : Int), .int .u8 (i : Int)]) (n := 2) rfl rfl rfl
  have q0 : ldC (ptr H.n 0) H1 = some (.int .u8 (a : Int), H1) := ldG g1 rfl
  have hne : H.n ≠ b := by have := h.1; omega
  have q1 : ldC (ptr H.n 1) (put H1 b T (at_ + 1) v) = some (.int .u8 (i : Int), put H1 b T (at_ + 1) v) := ldG (by unfold put; rw [upd_ne hne]; exact g1) rfl
  rw [hH1]
  constructor
  · rintro rfl
    refine Ev.step (fun n m => f103_L0.eq_2 _ _ _ _ _ _ _ _ _ m) ?_
    have e : ((c : Int) == (c : Int)) = true := by simp
    simp only [ruA, ruB, ruC, ruE, ruD, lenStr, Int.reduceBEq, Int.reduceBNe, ruP, e3, p1, p2, nv, st, q0, e, h1.ld1, idx_up (show at_ < 9223372036854775807 by omega), h1.st1, q1]
    exact Ev.pure _
  · intro hca x hx
    refine Ev.step (fun n m => f103_L0.eq_2 _ _ _ _ _ _ _ _ _ m) ?_
    have e : ((a : Int) == (c : Int)) = false := by rw [k_eq']; exact decide_eq_false fun e => hca e.symm
    simp only [ruA, ruB, ruC, ruE, ruD, lenStr, Int.reduceBEq, Int.reduceBNe, ruP, e3, p1, p2, nv, st, q0, e, idx_up (show j < 9223372036854775807 by omega)]
    exact hx
theorem esc_tail {H : Heap} {vs : Value} {at_ c : Nat} (h : TB H b T at_ v) (hat : at_ < T.length) (hc : c < 256) (hd : (U T).drop at_ = c :: (U T).drop (at_ + 1)) (h1 : c ≠ 110) (h2 : c ≠ 116) (h3 : c ≠ 114) :
    RdE (fun n m => f103_L0 realP (AP n) n m (ptr b 0) (.int .u8 (c : Int)) vs (.int .i64 3) (.int .i64 3) H) H b T v (escC c ((U T).drop (at_ + 1))) fun c => .int .u8 (c : Int) := by
  have hix := index_cl (E := noExt) rfl rfl escT hc H
  have e3 : ((3 : Int) < 3) = False := by simp
  unfold escC
  rw [if_neg h1, if_neg h2, if_neg h3]
  by_cases hm : c ∈ escL
  · rw [if_pos hm]
    refine ⟨at_ + 1, put H b T (at_ + 1) v, by omega, rfl, ?_, put_keep _, h.put _⟩
    refine Ev.step (fun n m => f103_L0.eq_2 _ _ _ _ _ _ _ _ _ m) ?_
    have e : (idxOf escT c ≥ 0) = True := eq_true (by show 0 ≤ idxOf escT c; rw [esc_mem hc]; exact hm)
    simp only [ruA, ruB, ruC, ruE, ruD, lenStr, Int.reduceBEq, Int.reduceBNe, ruP, e3]
    refine callQ_of hix (by kernel_rfl) rfl ?_
    simp only [ruA, ruB, ruC, ruE, ruD, lenStr, Int.reduceBEq, Int.reduceBNe, ruP, e, h.ld1, idx_up (show at_ < 9223372036854775807 by omega), h.st1]
    exact Ev.pure _
  · rw [if_neg hm]
    have e : (idxOf escT c ≥ 0) = False := eq_false (by show ¬ 0 ≤ idxOf escT c; rw [esc_mem hc]; exact hm)
    by_cases h4 : c = 120
    · rw [if_pos h4]
      have e4 : ((c : Int) != 120) = false := by rw [h4]; rfl
      refine ((hex_ok hT (h.put (at_ + 1)) (by omega)).base (put_keep _)).imp fun x hx => ?_
      refine Ev.step (fun n m => f103_L0.eq_2 _ _ _ _ _ _ _ _ _ m) ?_
      simp only [ruA, ruB, ruC, ruE, ruD, lenStr, Int.reduceBEq, Int.reduceBNe, ruP, e3]
      refine callQ_of hix (by kernel_rfl) rfl ?_
      simp only [ruA, ruB, ruC, ruE, ruD, lenStr, Int.reduceBEq, Int.reduceBNe, ruP, e, e4, f103_J3, h.ld1, idx_up (show at_ < 9223372036854775807 by omega), h.st1]
      exact Ev.loop hx
    · rw [if_neg h4]
      have e4 : ((c : Int) != 120) = true := by
        have := k_eq (a := c) (k := 120)
        rw [decide_eq_false h4] at this
        exact this
      refine ⟨at_, H, by omega, hd.symm, ?_, Keep.refl _ _⟩
      refine Ev.step (fun n m => f103_L0.eq_2 _ _ _ _ _ _ _ _ _ m) ?_
      simp only [ruA, ruB, ruC, ruE, ruD, lenStr, Int.reduceBEq, Int.reduceBNe, ruP, e3]
      refine callQ_of hix (by kernel_rfl) rfl ?_
      simp only [ruA, ruB, ruC, ruE, ruD, lenStr, Int.reduceBEq, Int.reduceBNe, ruP, e, e4]
      exact Ev.panQ (fail_cl h) rfl
theorem esc_ok {H : Heap} {at_ : Nat} (h : TB H b T at_ v) (hat : at_ ≤ T.length) (hL : Lt (But H b) H) : RdE (fun n _ => AP n 103 [ptr b 0] H) H b T v (escR ((U T).drop at_)) fun c => .int .u8 (c : Int) := by
  by_cases hl : at_ < T.length
  · obtain ⟨x, hx⟩ := at_some hl
    have hd := U_drop_at hx
    rw [hd, escR_cons]
    obtain ⟨vs, s, o, h0, g0, hs⟩ := hL
    have gl : ldC (.pointer (some ⟨0, 0, none⟩)) H = some (vs, H) := ldG (b := 0) (k := 0) g0 rfl
    have go : ∀ y, Ev (fun n m => f103_L0 realP (AP n) n m (ptr b 0) (.int .u8 (x.toNat : Int)) vs (.int .i64 3) (.int .i64 0) H) y → Ev (fun n _ => AP n 103 [ptr b 0] H) y := fun y hy => by
      refine Ev.enter (fun n => f103_eqP n _ _) ?_
      have e : ((at_ : Int) == (T.length : Int)) = false := by rw [k_eq']; exact decide_eq_false (by omega)
      have hvs : isP vs = false := by
        rcases hs with ⟨rfl, _⟩ | ⟨_, _, _, _, rfl, _⟩ | ⟨_, _, _, _, _, rfl, _⟩ <;> rfl
      simp only [f103, ruA, ruB, ruC, ruE, ruD, lenStr, Int.reduceBEq, Int.reduceBNe, ruP, h.ld0, h.ld1, bs_size, e, f103_J4, bs_idx hx, gl, bndP_val hvs, hs.lenS]
      exact Ev.loop hy
    obtain ⟨a1, b1⟩ := esc_round hT (c := x.toNat) (j := 0) (a := 110) (i := 10) h hl hs (by omega) rfl
    by_cases h1 : x.toNat = 110
    · have : escC x.toNat ((U T).drop (at_ + 1)) = .ok (10, (U T).drop (at_ + 1)) := by unfold escC; rw [if_pos h1]
      rw [this]
      have hp : TB (H.push ⟨[.int .u8 (110 : Nat), .int .u8 (10 : Nat)], 1, true⟩) b T at_ v := h.keep push_keep h.1
      exact ⟨at_ + 1, _, by omega, rfl, go _ (a1 h1), (push_keep.mono (all_but H b)).trans ((put_keep _).mono (but_up push_keep.1)), hp.put _⟩
    · have p1 : TB (H.push ⟨[.int .u8 (110 : Nat), .int .u8 (10 : Nat)], 1, true⟩) b T at_ v := h.keep push_keep h.1
      have k1 : Keep (But H b) H (H.push ⟨[.int .u8 (110 : Nat), .int .u8 (10 : Nat)], 1, true⟩) := push_keep.mono (all_but H b)
      have s1 := (hs.keep k1).mono (but_up k1.1)
      obtain ⟨a2, b2⟩ := esc_round hT (c := x.toNat) (j := 1) (a := 116) (i := 9) p1 hl s1 (by omega) rfl
      by_cases h2 : x.toNat = 116
      · have : escC x.toNat ((U T).drop (at_ + 1)) = .ok (9, (U T).drop (at_ + 1)) := by unfold escC; rw [if_neg h1, if_pos h2]
        rw [this]
        have hp : TB ((H.push ⟨[.int .u8 (110 : Nat), .int .u8 (10 : Nat)], 1, true⟩).push ⟨[.int .u8 (116 : Nat), .int .u8 (9 : Nat)], 1, true⟩) b T at_ v := p1.keep push_keep p1.1
        exact ⟨at_ + 1, _, by omega, rfl, go _ (b1 h1 _ (a2 h2)), k1.trans (((push_keep.mono (all_but _ b)).trans ((put_keep _).mono (but_up push_keep.1))).mono (but_up k1.1)), hp.put _⟩
      · have p2 : TB ((H.push ⟨[.int .u8 (110 : Nat), .int .u8 (10 : Nat)], 1, true⟩).push ⟨[.int .u8 (116 : Nat), .int .u8 (9 : Nat)], 1, true⟩) b T at_ v := p1.keep push_keep p1.1
        have k2 : Keep (But H b) H ((H.push ⟨[.int .u8 (110 : Nat), .int .u8 (10 : Nat)], 1, true⟩).push ⟨[.int .u8 (116 : Nat), .int .u8 (9 : Nat)], 1, true⟩) := k1.trans ((push_keep.mono (all_but _ b)).mono (but_up k1.1))
        have s2 := (hs.keep k2).mono (but_up k2.1)
        obtain ⟨a3, b3⟩ := esc_round hT (c := x.toNat) (j := 2) (a := 114) (i := 13) p2 hl s2 (by omega) rfl
        by_cases h3 : x.toNat = 114
        · have : escC x.toNat ((U T).drop (at_ + 1)) = .ok (13, (U T).drop (at_ + 1)) := by unfold escC; rw [if_neg h1, if_neg h2, if_pos h3]
          rw [this]
          have hp : TB (((H.push ⟨[.int .u8 (110 : Nat), .int .u8 (10 : Nat)], 1, true⟩).push ⟨[.int .u8 (116 : Nat), .int .u8 (9 : Nat)], 1, true⟩).push ⟨[.int .u8 (114 : Nat), .int .u8 (13 : Nat)], 1, true⟩) b T at_ v := p2.keep push_keep p2.1
          exact ⟨at_ + 1, _, by omega, rfl, go _ (b1 h1 _ (b2 h2 _ (a3 h3))), k2.trans (((push_keep.mono (all_but _ b)).trans ((put_keep _).mono (but_up push_keep.1))).mono (but_up k2.1)), hp.put _⟩
        · have p3 : TB (((H.push ⟨[.int .u8 (110 : Nat), .int .u8 (10 : Nat)], 1, true⟩).push ⟨[.int .u8 (116 : Nat), .int .u8 (9 : Nat)], 1, true⟩).push ⟨[.int .u8 (114 : Nat), .int .u8 (13 : Nat)], 1, true⟩) b T at_ v := p2.keep push_keep p2.1
          have k3 : Keep (But H b) H (((H.push ⟨[.int .u8 (110 : Nat), .int .u8 (10 : Nat)], 1, true⟩).push ⟨[.int .u8 (116 : Nat), .int .u8 (9 : Nat)], 1, true⟩).push ⟨[.int .u8 (114 : Nat), .int .u8 (13 : Nat)], 1, true⟩) := k2.trans ((push_keep.mono (all_but _ b)).mono (but_up k2.1))
          exact ((esc_tail hT (vs := vs) p3 hl x.toNat_lt hd h1 h2 h3).base k3).imp fun y hy => go y (b1 h1 _ (b2 h2 _ (b3 h3 _ hy)))
  · have e0 : (U T).drop at_ = [] := U_drop_end (by omega)
    rw [e0]
    refine ⟨at_, H, hat, e0.symm, ?_, Keep.refl _ _⟩
    refine Ev.enter (fun n => f103_eqP n _ _) ?_
    have e : ((at_ : Int) == (T.length : Int)) = true := by rw [k_eq']; exact decide_eq_true (by omega)
    simp only [f103, ruA, ruB, ruC, ruE, ruD, lenStr, Int.reduceBEq, Int.reduceBNe, ruP, h.ld0, h.ld1, bs_size, e]
    exact Ev.panQ (fail_cl h) rfl
end
end Go.Eng

set_option linter.unusedVariables false
set_option linter.unusedSimpArgs false
set_option linter.unusedSectionVars false
set_option maxRecDepth 100000
namespace Go.Eng
open Go Go.Proofs

theorem Ev.tailQ {A : Nat → Option (Value × Heap)} {y : Value × Heap} (h : Ev (fun n _ => A n) y) : Ev (fun n _ => bndP (A n) fun v H => some (v, H)) y := by
  obtain ⟨w, H2⟩ := y
  obtain ⟨N, hN⟩ := h
  refine ⟨N, fun n m hn hm => ?_⟩
  have e : A n = some (w, H2) := hN n m hn hm
  show bndP (A n) _ = _
  rw [e]
  cases hw : isP w <;> simp [bndP, hw]
section
variable {b : Nat} {T : List UInt8} {v : Value} (hT : T.length ≤ 1024)
include hT
theorem letter_ok {nt : List UInt8} {nl : List Nat} (hm : ∀ c, c < 256 → (0 ≤ idxOf nt c) = (c ∈ nl)) {H : Heap} {at_ : Nat} (h : TB H b T at_ v) (hat : at_ ≤ T.length) (hL : Lt (But H b) H) :
    RdE (fun n _ => AP n 100 [ptr b 0, .string (bs nt)] H) H b T v (letR nl ((U T).drop at_)) fun c => .int .u8 (c : Int) := by
  by_cases hl : at_ < T.length
  · obtain ⟨x, hx⟩ := at_some hl
    have hd := U_drop_at hx
    have hc := x.toNat_lt
    by_cases h92 : x.toNat = 92
    · have hh : ((U T).drop at_).head? = some 92 := by rw [hd, h92]; rfl
      have e : letR nl ((U T).drop at_) = escR ((U T).drop (at_ + 1)) := by rw [hd]; show (if x.toNat = 92 then _ else _) = _; rw [if_pos h92]
      rw [e]
      have hp := h.put (at_ + 1)
      refine ((esc_ok hT hp (by omega) ((hL.keep (put_keep _)).mono (but_up (put_keep (v := v) (at_ + 1)).1))).base (put_keep _)).imp fun y hy => ?_
      refine Ev.enter (fun n => f100_eqP n _ _ _) ?_
      simp only [f100, ruA, ruP]
      refine callQ_of (takes_yes rfl rfl h hat (by omega) hh) (by kernel_rfl) rfl ?_
      simp only [ruA, ruB, ruC, ruE, ruD, lenStr, Int.reduceBEq, Int.reduceBNe, ruP]
      exact Ev.tailQ hy
    · have hh : ((U T).drop at_).head? ≠ some 92 := by rw [hd]; simpa using h92
      have hno := takes_no (E := noExt) rfl rfl h hat hh
      have e0 : ((at_ : Int) == (T.length : Int)) = false := by rw [k_eq']; exact decide_eq_false (by omega)
      have el : letR nl ((U T).drop at_) = if x.toNat < 32 ∨ 126 < x.toNat ∨ x.toNat ∈ nl then .error ((U T).drop at_) else .ok (x.toNat, (U T).drop (at_ + 1)) := by
        rw [hd]; show (if x.toNat = 92 then _ else _) = _; rw [if_neg h92]
      rw [el]
      have fl : ∀ {R : Nat → Nat → Option (Value × Heap)}, Ev R (thrown at_, H) → RdE R H b T v (.error ((U T).drop at_)) fun c => .int .u8 (c : Int) := fun {R} hR => ⟨at_, H, hat, rfl, hR, Keep.refl _ _⟩
      by_cases h1 : x.toNat < 32
      · rw [if_pos (.inl h1)]
        refine fl (Ev.enter (fun n => f100_eqP n _ _ _) ?_)
        have e1 : ((x.toNat : Int) < 32) = True := eq_true (by omega)
        simp only [f100, ruA, ruP]
        refine callQ_of hno (by kernel_rfl) rfl ?_
        simp only [ruA, ruB, ruC, ruE, ruD, lenStr, Int.reduceBEq, Int.reduceBNe, ruP, h.ld0, h.ld1, bs_size, e0, bs_idx hx, e1, Bool.or_true]
        exact Ev.panQ (fail_cl h) rfl
      · have e1 : ((x.toNat : Int) < 32) = False := eq_false (by omega)
        by_cases h2 : 126 < x.toNat
        · rw [if_pos (.inr (.inl h2))]
          refine fl (Ev.enter (fun n => f100_eqP n _ _ _) ?_)
          have e2 : ((x.toNat : Int) > 126) = True := eq_true (by omega)
          simp only [f100, ruA, ruP]
          refine callQ_of hno (by kernel_rfl) rfl ?_
          simp only [ruA, ruB, ruC, ruE, ruD, lenStr, Int.reduceBEq, Int.reduceBNe, ruP, h.ld0, h.ld1, bs_size, e0, bs_idx hx, e1, e2, Bool.or_true]
          exact Ev.panQ (fail_cl h) rfl
        · have e2 : ((x.toNat : Int) > 126) = False := eq_false (by omega)
          have hix := index_cl (E := noExt) rfl rfl nt hc H
          by_cases h3 : x.toNat ∈ nl
          · rw [if_pos (.inr (.inr h3))]
            refine fl (Ev.enter (fun n => f100_eqP n _ _ _) ?_)
            have e3 : (idxOf nt x.toNat ≥ 0) = True := eq_true (by show 0 ≤ idxOf nt x.toNat; rw [hm _ hc]; exact h3)
            simp only [f100, ruA, ruP]
            refine callQ_of hno (by kernel_rfl) rfl ?_
            simp only [ruA, ruB, ruC, ruE, ruD, lenStr, Int.reduceBEq, Int.reduceBNe, ruP, h.ld0, h.ld1, bs_size, e0, bs_idx hx, e1, e2, Bool.or_true]
            refine callQ_of hix (by kernel_rfl) rfl ?_
            simp only [ruA, ruB, ruC, ruE, ruD, lenStr, Int.reduceBEq, Int.reduceBNe, ruP, e3, Bool.or_true]
            exact Ev.panQ (fail_cl h) rfl
          · rw [if_neg (by simp [h1, h2, h3])]
            refine ⟨at_ + 1, put H b T (at_ + 1) v, by omega, rfl, Ev.enter (fun n => f100_eqP n _ _ _) ?_, put_keep _, h.put _⟩
            have e3 : (idxOf nt x.toNat ≥ 0) = False := eq_false (by show ¬ 0 ≤ idxOf nt x.toNat; rw [hm _ hc]; exact h3)
            have hp := h.put (at_ + 1)
            have es : IntKind.i64.wrap (((at_ + 1 : Nat) : Int) - 1) = (at_ : Int) := by rw [wrap_i64 (by omega) (by omega)]; omega
            simp only [f100, ruA, ruP]
            refine callQ_of hno (by kernel_rfl) rfl ?_
            simp only [ruA, ruB, ruC, ruE, ruD, lenStr, Int.reduceBEq, Int.reduceBNe, ruP, h.ld0, h.ld1, bs_size, e0, bs_idx hx, e1, e2, Bool.or_true]
            refine callQ_of hix (by kernel_rfl) rfl ?_
            simp only [ruA, ruB, ruC, ruE, ruD, lenStr, Int.reduceBEq, Int.reduceBNe, ruP, e3, Bool.or_true, f100_J1, h.ld1, idx_up (show at_ < 9223372036854775807 by omega), h.st1, hp.ld0, hp.ld1, es, bs_idx hx]
            exact Ev.pure _
  · have ed : (U T).drop at_ = [] := U_drop_end (by omega)
    have hno := takes_no (E := noExt) (c := 92) rfl rfl h hat (by rw [ed]; simp)
    have e0 : ((at_ : Int) == (T.length : Int)) = true := by rw [k_eq']; exact decide_eq_true (by omega)
    rw [ed]
    refine ⟨at_, H, hat, ed.symm, Ev.enter (fun n => f100_eqP n _ _ _) ?_, Keep.refl _ _⟩
    simp only [f100, ruA, ruP]
    refine callQ_of hno (by kernel_rfl) rfl ?_
    simp only [ruA, ruB, ruC, ruE, ruD, lenStr, Int.reduceBEq, Int.reduceBNe, ruP, h.ld0, h.ld1, bs_size, e0, Bool.or_true]
    exact Ev.panQ (fail_cl h) rfl
end
end Go.Eng

set_option linter.unusedVariables false
set_option linter.unusedSimpArgs false
set_option linter.unusedSectionVars false
set_option maxRecDepth 100000
namespace Go.Eng
open Go Go.Proofs

theorem hex1_ok {r : List Nat} {d : Nat} {r' : List Nat} (h : hex1 r = .ok (d, r')) : d < 16 ∧ r'.length < r.length := by
  cases r with
  | nil => cases h
  | cons c r =>
    simp only [hex1] at h
    split at h
    · simp only [Except.ok.injEq, Prod.mk.injEq] at h
      obtain ⟨rfl, rfl⟩ := h
      exact ⟨by assumption, by simp⟩
    · cases h
theorem hex2_ok {r : List Nat} {d : Nat} {r' : List Nat} (h : hex2 r = .ok (d, r')) : d < 256 ∧ r'.length < r.length := by
  unfold hex2 at h
  split at h
  · cases h
  · rename_i x r1 h1
    split at h
    · cases h
    · rename_i y r2 h2
      simp only [Except.ok.injEq, Prod.mk.injEq] at h
      obtain ⟨rfl, rfl⟩ := h
      have q1 := hex1_ok h1
      have q2 := hex1_ok h2
      exact ⟨by omega, by omega⟩
theorem escR_ok {r : List Nat} {c : Nat} {r' : List Nat} (h : escR r = .ok (c, r')) (hb : ∀ x ∈ r, x < 256) : c < 256 ∧ r'.length < r.length := by
  cases r with
  | nil => cases h
  | cons x r =>
    rw [escR_cons] at h
    unfold escC at h
    have hx := hb x (by simp)
    split at h
    · simp only [Except.ok.injEq, Prod.mk.injEq] at h; obtain ⟨rfl, rfl⟩ := h; simp
    split at h
    · simp only [Except.ok.injEq, Prod.mk.injEq] at h; obtain ⟨rfl, rfl⟩ := h; simp
    split at h
    · simp only [Except.ok.injEq, Prod.mk.injEq] at h; obtain ⟨rfl, rfl⟩ := h; simp
    split at h
    · simp only [Except.ok.injEq, Prod.mk.injEq] at h; obtain ⟨rfl, rfl⟩ := h; exact ⟨hx, by simp⟩
    split at h
    · have := hex2_ok h; simp; omega
    · cases h
theorem letR_ok {no r : List Nat} {c : Nat} {r' : List Nat} (h : letR no r = .ok (c, r')) (hb : ∀ x ∈ r, x < 256) : c < 256 ∧ r'.length < r.length := by
  cases r with
  | nil => cases h
  | cons x r =>
    simp only [letR] at h
    split at h
    · have := escR_ok h fun y hy => hb y (by simp [hy])
      simp; omega
    · split at h
      · cases h
      · simp only [Except.ok.injEq, Prod.mk.injEq] at h
        obtain ⟨rfl, rfl⟩ := h
        exact ⟨hb _ (by simp), by simp⟩
def clsQ (neg : Bool) (r : Rd Nat) : Rd Nat := match r with
  | .ok (s, r') => .ok (if neg = true then notS s else s, r')
  | .error e => .error e
theorem U_tail {T : List UInt8} {n : Nat} : ((U T).drop n).tail = (U T).drop (n + 1) := by rw [List.tail_drop]
theorem U_byte' {T : List UInt8} {n : Nat} : ∀ x ∈ (U T).drop n, x < 256 := fun x hx => U_byte T x (List.mem_of_mem_drop hx)
section
variable {b : Nat} {T : List UInt8} {v : Value} (hT : T.length ≤ 1024)
include hT
theorem class_loop {H0 : Heap} {p2 p4 : Nat} (n2 : H0.n ≤ p2) (n4 : H0.n ≤ p4) (n24 : p2 ≠ p4) (nb2 : p2 ≠ b) (nb4 : p4 ≠ b) {neg : Bool} : ∀ (f : Nat) (first : Bool) (s at_ : Nat) (H : Heap), T.length - at_ < f → TB H b T at_ v → at_ ≤ T.length → Keep (But H0 b) H0 H → p2 < H.n → p4 < H.n →
    H.get p2 = some ⟨SC 0, 1, true⟩ → H.get p4 = some ⟨SC s, 1, true⟩ → Lt (But H0 b) H →
    RdE (fun n m => f99_L0 realP (AP n) n m (ptr b 0) (ptr p2 0) (.bool neg) (ptr p4 0) (.bool first) H) H0 b T v (clsQ neg (clsL f first s ((U T).drop at_))) fun s => .agg (SC s).toArray := by
  intro f
  induction f with
  | zero => intro first s at_ H hf; omega
  | succ f ih =>
    intro first s at_ H hf h hat hK l2 l4 g2 g4 hL
    have body : ∀ (H1 : Heap) (hd1 : Bool → Prop), RdE (fun n m => bndP (AP n 100 [ptr b 0, .string (bs classT)] H) fun x18_21 H22 =>
        bndP (AP n 67 [ptr b 0, .int .u8 45] H22) fun x21_23 H24 =>
        iff x21_23
        (bndP (ldC (ptr b 1) H24) fun x25_29 H30 =>
         bndP (AP n 100 [ptr b 0, .string (bs classT)] H30) fun x27_31 H32 =>
         bndP (up (binB Tryd.prog .lss 5 x27_31 x18_21) H32) fun x30_33 H34 =>
         iff x30_33
         (bndP (stV 1 (ptr b 1) x25_29 H34) fun _ H39 =>
          bndP (AP n 47 [ptr b 0] H39) fun x36_40 H41 =>
          f99_J1 realP (AP n) n (f99_L0 realP (AP n) n m) (ptr b 0) (ptr p2 0) (.bool neg) (ptr p4 0) x18_21 x27_31 H41)
         (f99_J1 realP (AP n) n (f99_L0 realP (AP n) n m) (ptr b 0) (ptr p2 0) (.bool neg) (ptr p4 0) x18_21 x27_31 H34))
        (f99_J1 realP (AP n) n (f99_L0 realP (AP n) n m) (ptr b 0) (ptr p2 0) (.bool neg) (ptr p4 0) x18_21 x18_21 H24)) H0 b T v
        (clsQ neg (match letR classL ((U T).drop at_) with
          | .error e => .error e
          | .ok (a, r1) =>
            if r1.head? = some 45 then
              match letR classL r1.tail with
              | .error e => .error e
              | .ok (b, r2) => if b < a then .error r1.tail else clsL f false (s ||| spanS a b) r2
            else clsL f false (s ||| spanS a a) r1)) fun s => .agg (SC s).toArray := by
      intro H1 hd1
      have join : ∀ {a c at1 : Nat} {H1 : Heap}, a < 256 → c < 256 → T.length - at1 < f → TB H1 b T at1 v → at1 ≤ T.length → Keep (But H0 b) H0 H1 → p2 < H1.n → p4 < H1.n → H1.get p2 = some ⟨SC 0, 1, true⟩ → H1.get p4 = some ⟨SC s, 1, true⟩ → Lt (But H0 b) H1 →
          RdE (fun n m => f99_J1 realP (AP n) n (f99_L0 realP (AP n) n m) (ptr b 0) (ptr p2 0) (.bool neg) (ptr p4 0) (.int .u8 (a : Int)) (.int .u8 (c : Int)) H1) H0 b T v (clsQ neg (clsL f false (s ||| spanS a c) ((U T).drop at1))) fun s => .agg (SC s).toArray := by
        intro a c at1 H1 ha hc hlt h1 hat1 hK1 q2 q4 g2 g4 hL1
        obtain ⟨H2, c2, k2⟩ := sspan_ok (E := noExt) (H := H1) rfl ha hc
        obtain ⟨H3, c3, k3⟩ := suni_ok (E := noExt) (H := H2) rfl s (spanS a c)
        have n2' := k2.1
        have n3' := k3.1
        have k13 : Keep (all H1) H1 H3 := k2.trans (k3.mono (upA k2))
        obtain ⟨H4, hH4⟩ : ∃ H4, H3.upd p4 (some ⟨SC (s ||| spanS a c), 1, true⟩) = H4 := ⟨_, rfl⟩
        have e4 : H4.n = H3.n := by rw [← hH4]; rfl
        have k34 : Keep (fun q => q ≠ p4) H3 H4 := by rw [← hH4]; exact Keep.upd fun h => h rfl
        have gg4 : H3.get p4 = some ⟨SC s, 1, true⟩ := by rw [k13.2 _ q4]; exact g4
        have kk : Keep (fun q => q < H1.n ∧ q ≠ p4) H1 H4 := (k13.mono fun q hq => hq.1).trans (k34.mono fun q hq => hq.2)
        have kb : Keep (But H0 b) H0 H4 := hK1.trans (kk.mono fun q hq => ⟨Nat.lt_of_lt_of_le hq.1 hK1.1, by have := hq.1; omega⟩)
        refine (ih false (s ||| spanS a c) at1 H4 hlt (h1.keep kk ⟨h1.1, fun e => nb4 e.symm⟩) hat1 kb (by omega) (by omega) (by rw [kk.2 _ ⟨q2, n24⟩]; exact g2) (by rw [← hH4]; exact upd_self) (hL1.keep (kk.mono fun q hq => ⟨Nat.lt_of_lt_of_le hq.1 hK1.1, by have := hq.1; omega⟩))).imp fun y hy => ?_
        have sb : sameBlk H1 H2 (blkOf (ptr p4 0)) = true := Box.blk (R := all H1) (cs := SC s) ⟨q4, _, _, g4⟩ k2
        simp only [f99_J1, ruA, ruB, ruC, ruE, ruD, lenStr, Int.reduceBEq, Int.reduceBNe, ruP, ldAG g4 (SC_len s)]
        refine callQ_of c2 (by kernel_rfl) rfl ?_
        simp only [ruA, ruB, ruC, ruE, ruD, lenStr, Int.reduceBEq, Int.reduceBNe, ruP, sb]
        refine callQ_of c3 (by kernel_rfl) rfl ?_
        simp only [ruA, ruB, ruC, ruE, ruD, lenStr, Int.reduceBEq, Int.reduceBNe, ruP, stG gg4 (SC_len _) (SC_len _) (SC_one _), hH4]
        exact hy
      have hA := letter_ok hT (fun c => class_mem) h hat (hL.mono (but_up hK.1))
      cases ha : letR classL ((U T).drop at_) with
      | error e =>
        rw [ha] at hA
        obtain ⟨at', H', q1, q2, q3, q4⟩ := hA
        exact ⟨at', H', q1, q2, Ev.panQ q3 rfl, hK.trans (q4.mono (but_up hK.1))⟩
      | ok p =>
        obtain ⟨a, r1⟩ := p
        rw [ha] at hA
        obtain ⟨at1, H1, q1, rfl, q3, q4, h1⟩ := hA
        obtain ⟨ha256, hlen⟩ := letR_ok ha U_byte'
        have hK1 : Keep (But H0 b) H0 H1 := hK.trans (q4.mono (but_up hK.1))
        have m1 := q4.1
        have g2' : H1.get p2 = some ⟨SC 0, 1, true⟩ := by rw [q4.2 _ ⟨l2, nb2⟩]; exact g2
        have g4' : H1.get p4 = some ⟨SC s, 1, true⟩ := by rw [q4.2 _ ⟨l4, nb4⟩]; exact g4
        have hL1 : Lt (But H0 b) H1 := hL.keep (q4.mono (but_up hK.1))
        rw [List.length_drop, List.length_drop, U_len'] at hlen
        simp only
        by_cases hm : ((U T).drop at1).head? = some 45
        · rw [if_pos hm, U_tail]
          have hl1 : at1 < T.length := by
            rcases Nat.lt_or_ge at1 T.length with hh | hh
            · exact hh
            · rw [U_drop_end hh] at hm; cases hm
          have hy := takes_yes (E := noExt) rfl rfl h1 q1 (by omega) hm
          have h2 := h1.put (at1 + 1)
          have hL2 : Lt (But H0 b) (put H1 b T (at1 + 1) v) := hL1.keep ((put_keep _).mono (but_up hK1.1))
          have hK2 : Keep (But H0 b) H0 (put H1 b T (at1 + 1) v) := hK1.trans ((put_keep _).mono (but_up hK1.1))
          have hB := letter_ok hT (fun c => class_mem) h2 (by omega) (hL2.mono (but_up hK2.1))
          cases hb : letR classL ((U T).drop (at1 + 1)) with
          | error e =>
            rw [hb] at hB
            obtain ⟨at', H', r1, r2, r3, r4⟩ := hB
            refine ⟨at', H', r1, r2, ?_, hK2.trans (r4.mono (but_up hK2.1))⟩
            refine Ev.callQ q3 rfl ?_
            refine callQ_of hy (by kernel_rfl) rfl ?_
            simp only [ruA, ruB, ruC, ruE, ruD, lenStr, Int.reduceBEq, Int.reduceBNe, ruP, h2.ld1]
            exact Ev.panQ r3 rfl
          | ok p =>
            obtain ⟨c, r2⟩ := p
            rw [hb] at hB
            obtain ⟨at2, H2, r1, rfl, r3, r4, h3⟩ := hB
            obtain ⟨hc256, hlen2⟩ := letR_ok hb U_byte'
            have hK3 : Keep (But H0 b) H0 H2 := hK2.trans (r4.mono (but_up hK2.1))
            have m2 := r4.1
            have pn : (put H1 b T (at1 + 1) v).n = H1.n := rfl
            have g2'' : H2.get p2 = some ⟨SC 0, 1, true⟩ := by rw [r4.2 _ ⟨by omega, nb2⟩, (put_keep (H := H1) (b := b) (T := T) (v := v) (at1 + 1)).2 _ ⟨by omega, nb2⟩]; exact g2'
            have g4'' : H2.get p4 = some ⟨SC s, 1, true⟩ := by rw [r4.2 _ ⟨by omega, nb4⟩, (put_keep (H := H1) (b := b) (T := T) (v := v) (at1 + 1)).2 _ ⟨by omega, nb4⟩]; exact g4'
            have hL3 : Lt (But H0 b) H2 := hL2.keep (r4.mono (but_up hK2.1))
            rw [List.length_drop, List.length_drop, U_len'] at hlen2
            simp only
            by_cases hlt : c < a
            · rw [if_pos hlt]
              refine ⟨at1 + 1, put H2 b T (at1 + 1) v, by omega, rfl, ?_, hK3.trans ((put_keep _).mono (but_up hK3.1))⟩
              have e : ((c : Int) < (a : Int)) = True := eq_true (by omega)
              refine Ev.callQ q3 rfl ?_
              refine callQ_of hy (by kernel_rfl) rfl ?_
              simp only [ruA, ruB, ruC, ruE, ruD, lenStr, Int.reduceBEq, Int.reduceBNe, ruP, h2.ld1]
              refine Ev.callQ r3 rfl ?_
              simp only [ruA, ruB, ruC, ruE, ruD, lenStr, Int.reduceBEq, Int.reduceBNe, ruP, e, h3.st1]
              exact Ev.panQ (fail_cl (h3.put (at1 + 1))) rfl
            · rw [if_neg hlt]
              refine (join ha256 hc256 (by omega) h3 r1 hK3 (by omega) (by omega) g2'' g4'' hL3).imp fun y hy' => ?_
              have e : ((c : Int) < (a : Int)) = False := eq_false (by omega)
              refine Ev.callQ q3 rfl ?_
              refine callQ_of hy (by kernel_rfl) rfl ?_
              simp only [ruA, ruB, ruC, ruE, ruD, lenStr, Int.reduceBEq, Int.reduceBNe, ruP, h2.ld1]
              refine Ev.callQ r3 rfl ?_
              simp only [ruA, ruB, ruC, ruE, ruD, lenStr, Int.reduceBEq, Int.reduceBNe, ruP, e]
              exact hy'
        · rw [if_neg hm]
          have hn := takes_no (E := noExt) rfl rfl h1 q1 hm
          refine (join ha256 ha256 (by omega) h1 q1 hK1 (by omega) (by omega) g2' g4' hL1).imp fun y hy' => ?_
          refine Ev.callQ q3 rfl ?_
          refine callQ_of hn (by kernel_rfl) rfl ?_
          simp only [ruA, ruB, ruC, ruE, ruD, lenStr, Int.reduceBEq, Int.reduceBNe, ruP]
          exact hy'
    have fin : ∀ {at1 : Nat} {H1 : Heap}, TB H1 b T at1 v → at1 ≤ T.length → Keep (But H0 b) H0 H1 → H1.get p2 = some ⟨SC 0, 1, true⟩ → H1.get p4 = some ⟨SC s, 1, true⟩ → p2 < H1.n →
        RdE (fun n m => iff (.bool neg) (bndP (ldA 4 (ptr p4 0) H1) fun x43_56 H57 =>
          bndP (AP n 31 [x43_56] H57) fun x44_58 H59 =>
          bndP (stV 4 (ptr p2 0) x44_58 H59) fun _ H60 =>
          (resM [(ldA 4 (ptr p2 0) H60).map (·.1)]).map fun l => (one l, H60))
         (bndP (ldA 4 (ptr p4 0) H1) fun x45_61 H62 =>
          bndP (stV 4 (ptr p2 0) x45_61 H62) fun _ H63 =>
          (resM [(ldA 4 (ptr p2 0) H63).map (·.1)]).map fun l => (one l, H63))) H0 b T v (clsQ neg (.ok (s, (U T).drop at1))) fun s => .agg (SC s).toArray := by
      intro at1 H1 h1 hat1 hK1 g2 g4 hp2
      cases neg with
      | true =>
        obtain ⟨H2, c2, k2⟩ := snot_ok (E := noExt) (H := H1) rfl s
        have gg : H2.get p2 = some ⟨SC 0, 1, true⟩ := by rw [k2.2 _ hp2]; exact g2
        have kk : Keep (fun q => q < H1.n ∧ q ≠ p2) H1 (H2.upd p2 (some ⟨SC (notS s), 1, true⟩)) := (k2.mono fun q hq => hq.1).trans (Keep.upd fun h => h.2 rfl)
        refine ⟨at1, H2.upd p2 (some ⟨SC (notS s), 1, true⟩), hat1, rfl, ?_, hK1.trans (kk.mono fun q hq => ⟨Nat.lt_of_lt_of_le hq.1 hK1.1, by have := hq.1; omega⟩), h1.keep kk ⟨h1.1, fun e => nb2 e.symm⟩⟩
        simp only [ruA, ruB, ruC, ruE, ruD, lenStr, Int.reduceBEq, Int.reduceBNe, ruP, ldAG g4 (SC_len s)]
        refine callQ_of c2 (by kernel_rfl) rfl ?_
        simp only [ruA, ruB, ruC, ruE, ruD, lenStr, Int.reduceBEq, Int.reduceBNe, ruP, stG gg (SC_len _) (SC_len _) (SC_one _), ldAG (H := H2.upd p2 (some ⟨SC (notS s), 1, true⟩)) upd_self (SC_len _), Option.map_some, resM1, one1]
        exact Ev.pure _
      | false =>
        have kk : Keep (fun q => q < H1.n ∧ q ≠ p2) H1 (H1.upd p2 (some ⟨SC s, 1, true⟩)) := Keep.upd fun h => h.2 rfl
        refine ⟨at1, H1.upd p2 (some ⟨SC s, 1, true⟩), hat1, rfl, ?_, hK1.trans (kk.mono fun q hq => ⟨Nat.lt_of_lt_of_le hq.1 hK1.1, by have := hq.1; omega⟩), h1.keep kk ⟨h1.1, fun e => nb2 e.symm⟩⟩
        simp only [ruA, ruB, ruC, ruE, ruD, lenStr, Int.reduceBEq, Int.reduceBNe, ruP, ldAG g4 (SC_len s), stG g2 (SC_len _) (SC_len _) (SC_one _), ldAG (H := H1.upd p2 (some ⟨SC s, 1, true⟩)) upd_self (SC_len _), Option.map_some, resM1, one1]
        exact Ev.pure _
    have bd := body H fun _ => True
    cases first with
    | true =>
      have ec : clsL (f + 1) true s ((U T).drop at_) = (match letR classL ((U T).drop at_) with
          | .error e => .error e
          | .ok (a, r1) =>
            if r1.head? = some 45 then
              match letR classL r1.tail with
              | .error e => .error e
              | .ok (b, r2) => if b < a then .error r1.tail else clsL f false (s ||| spanS a b) r2
            else clsL f false (s ||| spanS a a) r1) := by
        rw [clsL, if_neg (by simp)]
        rfl
      rw [ec]
      refine bd.imp fun y hy => Ev.step (fun n m => f99_L0.eq_2 _ _ _ _ _ _ _ _ _ m) ?_
      simp only [ruA, ruB, ruC, ruE, ruD, lenStr, Int.reduceBEq, Int.reduceBNe, ruP]
      exact hy
    | false =>
      by_cases hm : ((U T).drop at_).head? = some 93
      · have hl1 : at_ < T.length := by
          rcases Nat.lt_or_ge at_ T.length with hh | hh
          · exact hh
          · rw [U_drop_end hh] at hm; cases hm
        have ec : clsL (f + 1) false s ((U T).drop at_) = .ok (s, (U T).drop (at_ + 1)) := by
          rw [clsL, if_pos ⟨rfl, hm⟩, U_tail]
        rw [ec]
        have hy := takes_yes (E := noExt) rfl rfl h hat (by omega) hm
        have pk := put_keep (H := H) (b := b) (T := T) (v := v) (at_ + 1)
        refine (fin (h.put (at_ + 1)) (by omega) (hK.trans (pk.mono (but_up hK.1))) (by rw [pk.2 _ ⟨l2, nb2⟩]; exact g2) (by rw [pk.2 _ ⟨l4, nb4⟩]; exact g4) l2).imp fun y hy' => Ev.step (fun n m => f99_L0.eq_2 _ _ _ _ _ _ _ _ _ m) ?_
        simp only [ruA, ruB, ruC, ruE, ruD, lenStr, Int.reduceBEq, Int.reduceBNe, ruP]
        refine callQ_of hy (by kernel_rfl) rfl ?_
        simp only [ruA, ruB, ruC, ruE, ruD, lenStr, Int.reduceBEq, Int.reduceBNe, ruP]
        exact hy'
      · have ec : clsL (f + 1) false s ((U T).drop at_) = (match letR classL ((U T).drop at_) with
            | .error e => .error e
            | .ok (a, r1) =>
              if r1.head? = some 45 then
                match letR classL r1.tail with
                | .error e => .error e
                | .ok (b, r2) => if b < a then .error r1.tail else clsL f false (s ||| spanS a b) r2
              else clsL f false (s ||| spanS a a) r1) := by
          rw [clsL, if_neg fun h => hm h.2]
          rfl
        rw [ec]
        have hn := takes_no (E := noExt) rfl rfl h hat hm
        refine bd.imp fun y hy => Ev.step (fun n m => f99_L0.eq_2 _ _ _ _ _ _ _ _ _ m) ?_
        simp only [ruA, ruB, ruC, ruE, ruD, lenStr, Int.reduceBEq, Int.reduceBNe, ruP]
        refine callQ_of hn (by kernel_rfl) rfl ?_
        simp only [ruA, ruB, ruC, ruE, ruD, lenStr, Int.reduceBEq, Int.reduceBNe, ruP]
        exact hy
theorem class_ok {H : Heap} {at_ : Nat} (h : TB H b T at_ v) (hat : at_ ≤ T.length) (hL : Lt (But H b) H) :
    RdE (fun n _ => AP n 99 [ptr b 0] H) H b T v (clsR ((U T).drop at_)) fun s => .agg (SC s).toArray := by
  obtain ⟨H1, hH1⟩ : ∃ H1, H.push ⟨SC 0, 1, true⟩ = H1 := ⟨_, rfl⟩
  have n1 : H1.n = H.n + 1 := by rw [← hH1]; rfl
  have k1 : Keep (all H) H H1 := by rw [← hH1]; exact push_keep
  have g1 : H1.get H.n = some ⟨SC 0, 1, true⟩ := by rw [← hH1]; exact push_self
  have h1 : TB H1 b T at_ v := h.keep k1 h.1
  have hb := h.1
  have flen : ((U T).drop at_).length + 1 = T.length - at_ + 1 := by rw [List.length_drop, U_len']
  have kb1 : Keep (But H b) H H1 := k1.mono (all_but H b)
  have go : ∀ (neg : Bool) (at1 : Nat) (H2 : Heap), TB H2 b T at1 v → at1 ≤ T.length → T.length - at1 < T.length - at_ + 1 → Keep (But H1 b) H1 H2 → ClP Tryd.prog true noExt 67 [ptr b 0, .int .u8 (94 : Nat)] H1 (.bool neg) H2 →
      RdE (fun n _ => AP n 99 [ptr b 0] H) H b T v (clsQ neg (clsL (T.length - at_ + 1) true 0 ((U T).drop at1))) fun s => .agg (SC s).toArray := by
    intro neg at1 H2 h2 hat1 hlt k2 c2
    have n2 := k2.1
    obtain ⟨H3, hH3⟩ : ∃ H3, H2.push ⟨SC 0, 1, true⟩ = H3 := ⟨_, rfl⟩
    have n3 : H3.n = H2.n + 1 := by rw [← hH3]; rfl
    have k3 : Keep (all H2) H2 H3 := by rw [← hH3]; exact push_keep
    have kk : Keep (But H b) H H3 := kb1.trans ((k2.mono (but_up k1.1)).trans (k3.mono fun q hq => by have := hq.1; show q < H2.n; omega))
    refine (class_loop hT (H0 := H) (p2 := H.n) (p4 := H2.n) (by omega) (by omega) (by omega) (by omega) (by omega) (neg := neg) (T.length - at_ + 1) true 0 at1 H3 hlt (h2.keep k3 h2.1) hat1 kk (by omega) (by omega)
      (by rw [k3.2 _ (show H.n < H2.n by omega), k2.2 _ ⟨by omega, by omega⟩]; exact g1) (by rw [← hH3]; exact push_self) (hL.keep kk)).imp fun y hy => ?_
    refine Ev.enter (fun n => f99_eqP n _ _) ?_
    have nv1 : newV [.int .u64 0, .int .u64 0, .int .u64 0, .int .u64 0] H = some (ptr H.n 0, H1) := by rw [SC_zero, newV_box (SC_one _), hH1]
    have nv2 : newV [.int .u64 0, .int .u64 0, .int .u64 0, .int .u64 0] H2 = some (ptr H2.n 0, H3) := by rw [SC_zero, newV_box (SC_one _), hH3]
    simp only [f99, ruA, ruB, ruC, ruE, ruD, lenStr, Int.reduceBEq, Int.reduceBNe, ruP, nv1]
    refine callQ_of c2 (by kernel_rfl) rfl ?_
    simp only [ruA, ruB, ruC, ruE, ruD, lenStr, Int.reduceBEq, Int.reduceBNe, ruP, nv2]
    exact Ev.loop hy
  unfold clsR
  rw [flen]
  by_cases hm : ((U T).drop at_).head? = some 94
  · rw [if_pos hm, U_tail]
    have hl : at_ < T.length := by
      rcases Nat.lt_or_ge at_ T.length with hh | hh
      · exact hh
      · rw [U_drop_end hh] at hm; cases hm
    have := go true (at_ + 1) _ (h1.put (at_ + 1)) (by omega) (by omega) (put_keep _) (takes_yes (E := noExt) rfl rfl h1 hat (by omega) hm)
    cases hc : clsL (T.length - at_ + 1) true 0 ((U T).drop (at_ + 1)) with
    | error e => rw [hc] at this; exact this
    | ok p => rw [hc] at this; exact this
  · rw [if_neg hm]
    have := go false at_ H1 h1 hat (by omega) (Keep.refl _ _) (takes_no (E := noExt) rfl rfl h1 hat hm)
    cases hc : clsL (T.length - at_ + 1) true 0 ((U T).drop at_) with
    | error e => rw [hc] at this; exact this
    | ok p => rw [hc] at this; exact this
end
end Go.Eng

set_option linter.unusedVariables false
set_option linter.unusedSimpArgs false
set_option linter.unusedSectionVars false
set_option maxRecDepth 100000
namespace Go.Eng
open Go Go.Proofs

def ND (n : Nd) : List Value := [.int .i64 n.kind, .int .u64 (wrd n.set 0 : Int), .int .u64 (wrd n.set 1 : Int), .int .u64 (wrd n.set 2 : Int), .int .u64 (wrd n.set 3 : Int), .int .i64 n.a, .int .i64 n.b]
def NDS (l : List Nd) : List Value := (l.map ND).flatten
theorem NDS_len (l : List Nd) : (NDS l).length = l.length * 7 := by
  induction l with
  | nil => rfl
  | cons x l ih => simp only [NDS, List.map_cons, List.flatten_cons, List.length_append] at ih ⊢; rw [ih]; simp [ND]; omega
theorem NDS_snoc (l : List Nd) (x : Nd) : NDS (l ++ [x]) = NDS l ++ ND x := by simp [NDS]
def RB (H0 H : Heap) (b : Nat) (T : List UInt8) (at_ : Nat) (l : List Nd) : Prop := H0.n ≤ b ∧ Keep (all H0) H0 H ∧ ∃ vl, TB H b T at_ vl ∧ Acc (all H0) H 7 vl l.length (NDS l) ∧ blkOf vl ≠ some b
theorem zero_nd {H : Heap} {n : Nd} : bldS 7 1 [.int .i64 0, .int .u64 0, .int .u64 0, .int .u64 0, .int .u64 0, .int .i64 0, .int .i64 0] [(0, 7, .agg (ND n).toArray)] H = some (.slice (some ⟨H.n, 0, none⟩) 1 1, H.push ⟨ND n, 7, true⟩) := rfl
section
variable {H0 H : Heap} {b : Nat} {T : List UInt8} {at_ : Nat} {l : List Nd}
theorem add_ok (h : RB H0 H b T at_ l) (hl : l.length ≤ 100000) (nd : Nd) : ∃ H', ClP Tryd.prog true noExt 68 [ptr b 0, .agg (ND nd).toArray] H (.int .i64 (l.length : Int)) H' ∧ RB H0 H' b T at_ (l ++ [nd]) := by
  obtain ⟨h0, hK, vl, hT, hA, hne⟩ := h
  obtain ⟨H1, hH1⟩ : ∃ H1, H.push ⟨ND nd, 1, true⟩ = H1 := ⟨_, rfl⟩
  obtain ⟨H2, hH2⟩ : ∃ H2, H1.push ⟨ND nd, 7, true⟩ = H2 := ⟨_, rfl⟩
  have n1 : H1.n = H.n + 1 := by rw [← hH1]; rfl
  have n2 : H2.n = H.n + 2 := by rw [← hH2, push_n, n1]
  have k1 : Keep (all H) H H1 := by rw [← hH1]; exact push_keep
  have k2 : Keep (all H) H H2 := by rw [← hH2]; exact k1.trans (push_keep.mono (upA k1))
  have hb := hT.1
  have hn0 := hK.1
  have t1 : TB H1 b T at_ vl := hT.keep k1 hb
  have t2 : TB H2 b T at_ vl := hT.keep k2 hb
  have hA2 : Acc (all H0) H2 7 vl l.length (NDS l) := hA.keep k2
  have hadd : addend 7 (.slice (some ⟨H1.n, 0, none⟩) 1 1) H2 = some (1, ND nd) := by rw [← hH2]; exact addend_push rfl
  have hmb : mostBytes = 140737488355328 := rfl
  obtain ⟨v', H3, a1, a2, a3, a4, a5, _⟩ := hA2.appQ (by_ := 56) (by omega) hadd rfl (by omega)
  rw [← NDS_snoc] at a2
  have n3 := a3.1
  have t3 : TB H3 b T at_ vl := t2.keep a4 ⟨t2.1, hne⟩
  have hne' : blkOf v' ≠ some b := fun e => by
    rcases a5 b e with h | h
    · exact hne h
    · omega
  have hv1 := a2.oneC
  have st : stV 1 (ptr b 2) v' H3 = some (undef, H3.upd b (some ⟨[.string (bs T), .int .i64 (at_ : Int), v'], 1, true⟩)) := by
    rw [stV1_box t3.2 (by show 2 < 3; omega) hv1.2 hv1.1]; rfl
  obtain ⟨H4, hH4⟩ : ∃ H4, H3.upd b (some ⟨[.string (bs T), .int .i64 (at_ : Int), v'], 1, true⟩) = H4 := ⟨_, rfl⟩
  have k4 : Keep (But H3 b) H3 H4 := by rw [← hH4]; exact upd_butQ
  have t4 : TB H4 b T at_ v' := ⟨Nat.lt_of_lt_of_le t3.1 k4.1, by rw [← hH4]; exact upd_self⟩
  have A4 : Acc (all H0) H4 7 v' (l ++ [nd]).length (NDS (l ++ [nd])) := by
    rw [List.length_append]
    exact a2.box hne' k4
  have hKK : Keep (all H0) H0 H4 := by
    refine (hK.trans ((k2.mono (fun q hq => Nat.lt_of_lt_of_le hq hn0)).trans ?_)).trans (k4.mono fun q hq => ⟨by have : q < H0.n := hq; omega, by have : q < H0.n := hq; omega⟩)
    exact a3
  refine ⟨H4, ?_, h0, hKK, v', t4, A4, hne'⟩
  refine Ev.enter (fun n => f68_eq rfl n _ _ _) ?_
  have nv : newV (Value.cells (.agg (ND nd).toArray)).toList H = some (ptr H.n 0, H1) := by rw [newA rfl, hH1]
  have ld : Eng.ldA 7 (ptr H.n 0) H1 = some (.agg (ND nd).toArray, H1) := by rw [← hH1]; exact ldA_push rfl
  have bl : bldS 7 1 [.int .i64 0, .int .u64 0, .int .u64 0, .int .u64 0, .int .u64 0, .int .i64 0, .int .i64 0] [(0, 7, .agg (ND nd).toArray)] H1 = some (.slice (some ⟨H1.n, 0, none⟩) 1 1, H2) := by rw [zero_nd, hH2]
  have hlen : lenS v' = some (.int .i64 ((l.length + 1 : Nat) : Int)) := a2.sl.lenS
  have ew : IntKind.i64.wrap (((l.length + 1 : Nat) : Int) - 1) = (l.length : Int) := by rw [wrap_i64 (by omega) (by omega)]; omega
  simp only [f68, ruA, ruB, ruC, ruE, ruD, lenStr, Int.reduceBEq, Int.reduceBNe, nv, t1.ld2', ld, bl, a1, st, hH4, t4.ld2', hlen, ew]
  exact Ev.pure _
end
end Go.Eng

set_option linter.unusedVariables false
set_option linter.unusedSimpArgs false
set_option linter.unusedSectionVars false
set_option maxRecDepth 100000
namespace Go.Eng
open Go Go.Proofs

section
variable {H0 H : Heap} {b : Nat} {T : List UInt8} {at_ : Nat} {l : List Nd}
theorem RB.text (h : RB H0 H b T at_ l) : ∃ vl, TB H b T at_ vl ∧ (∀ {H' : Heap} {at' : Nat}, Keep (But H b) H H' → TB H' b T at' vl → RB H0 H' b T at' l) := by
  obtain ⟨h0, hK, vl, hT, hA, hne⟩ := h
  exact ⟨vl, hT, fun {H' at'} k t => ⟨h0, hK.trans (k.mono fun q hq => by have : q < H0.n := hq; have := hK.1; exact ⟨by omega, by omega⟩), vl, t, hA.box hne k, hne⟩⟩
theorem RB.under (h : RB H0 H b T at_ l) {H' : Heap} (k : Keep (But H b) H H') : Keep (all H0) H0 H' := by
  obtain ⟨h0, hK, _⟩ := h
  exact hK.trans (k.mono fun q hq => by have : q < H0.n := hq; have := hK.1; exact ⟨by omega, by omega⟩)
theorem RB.lt (h : RB H0 H b T at_ l) (hL : Lt (all H0) H0) : Lt (But H b) H := by
  obtain ⟨h0, hK, _⟩ := h
  exact (hL.keep hK).mono fun q hq => by have : q < H0.n := hq; have := hK.1; exact ⟨by omega, by omega⟩
theorem RB.push (h : RB H0 H b T at_ l) (blk : Blk) : RB H0 (H.push blk) b T at_ l := by
  obtain ⟨vl, hT, hx⟩ := h.text
  exact hx (push_keep.mono (all_but H b)) (hT.keep push_keep hT.1)
def RdX (R : Nat → Nat → Option (Value × Heap)) (H0 : Heap) (b : Nat) (T : List UInt8) (l : List Nd) (r : Rd Rx) : Prop :=
  match r with
  | .ok (t, r') => ∃ at' H', at' ≤ T.length ∧ r' = (U T).drop at' ∧ Ev R (.int .i64 ((l.length + t.size - 1 : Nat) : Int), H') ∧ RB H0 H' b T at' (l ++ t.flat l.length)
  | .error e => ∃ at' H', at' ≤ T.length ∧ e = (U T).drop at' ∧ Ev R (thrown at', H') ∧ Keep (all H0) H0 H'
theorem RdX.imp {R B : Nat → Nat → Option (Value × Heap)} {r : Rd Rx} (h : RdX B H0 b T l r) (hi : ∀ x, Ev B x → Ev R x) : RdX R H0 b T l r := by
  cases r with
  | ok p => obtain ⟨a, H', h1, h2, h3, h4⟩ := h; exact ⟨a, H', h1, h2, hi _ h3, h4⟩
  | error e => obtain ⟨a, H', h1, h2, h3, h4⟩ := h; exact ⟨a, H', h1, h2, hi _ h3, h4⟩
theorem nd_nil {H : Heap} : bld [.int .i64 0, .int .u64 0, .int .u64 0, .int .u64 0, .int .u64 0, .int .i64 0, .int .i64 0] [(0, 1, .int .i64 1)] H = some (.agg (ND ⟨1, 0, 0, 0⟩).toArray, H) := rfl
theorem nd_one {H : Heap} {k x : Int} : bld [.int .i64 0, .int .u64 0, .int .u64 0, .int .u64 0, .int .u64 0, .int .i64 0, .int .i64 0] [(0, 1, .int .i64 k), (5, 1, .int .i64 x)] H = some (.agg (ND ⟨k, 0, x, 0⟩).toArray, H) := by kernel_rfl
theorem nd_two {H : Heap} {k x y : Int} : bld [.int .i64 0, .int .u64 0, .int .u64 0, .int .u64 0, .int .u64 0, .int .i64 0, .int .i64 0] [(0, 1, .int .i64 k), (5, 1, .int .i64 x), (6, 1, .int .i64 y)] H = some (.agg (ND ⟨k, 0, x, y⟩).toArray, H) := by kernel_rfl
theorem nd_set {H : Heap} {s : Nat} : bld [.int .i64 0, .int .u64 0, .int .u64 0, .int .u64 0, .int .u64 0, .int .i64 0, .int .i64 0] [(0, 1, .int .i64 2), (1, 4, .agg (SC s).toArray)] H = some (.agg (ND ⟨2, s, 0, 0⟩).toArray, H) := rfl
variable (hT : T.length ≤ 1024)
include hT
theorem post_loop : ∀ (k at_ : Nat) (t : Rx) (H : Heap), T.length - at_ = k → at_ ≤ T.length → RB H0 H b T at_ (l ++ t.flat l.length) → l.length + t.size + 2 * (T.length - at_) ≤ 90000 →
    ∃ at' H', at' ≤ T.length ∧ (postR t ((U T).drop at_)).2 = (U T).drop at' ∧ Ev (fun n m => f83_L0 realP (AP n) n m (ptr b 0) (.int .i64 ((l.length + t.size - 1 : Nat) : Int)) H) (.int .i64 ((l.length + (postR t ((U T).drop at_)).1.size - 1 : Nat) : Int), H') ∧
      RB H0 H' b T at' (l ++ (postR t ((U T).drop at_)).1.flat l.length) := by
  intro k
  induction k with
  | zero =>
    intro at_ t H hk hat h hB
    have e0 : (U T).drop at_ = [] := U_drop_end (by omega)
    rw [e0]
    obtain ⟨vl, t1, _⟩ := h.text
    refine ⟨at_, H, hat, by rw [postR]; exact e0.symm, Ev.step (fun n m => f83_L0.eq_2 _ _ _ _ _ _ m) ?_, h⟩
    simp only [ruA, ruB, ruC, ruE, ruD, lenStr, Int.reduceBEq, Int.reduceBNe, ruP, t1.ld0, t1.ld1, bs_size, idx_ge (show T.length ≤ at_ by omega), postR]
    exact Ev.pure _
  | succ k ih =>
    intro at_ t H hk hat h hB
    obtain ⟨x, hx⟩ := at_some (T := T) (at_ := at_) (by omega)
    have hd := U_drop_at hx
    rw [hd]
    obtain ⟨vl, t1, _⟩ := h.text
    have hfl := Rx.flat_len t l.length
    have hsz := t.size_pos
    have q63 : ((x.toNat : Int) == 63) = decide (x.toNat = 63) := k_eq' (k := 63)
    have q43 : ((x.toNat : Int) == 43) = decide (x.toNat = 43) := k_eq' (k := 43)
    have q42 : ((x.toNat : Int) == 42) = decide (x.toNat = 42) := k_eq' (k := 42)
    have hll : (l ++ t.flat l.length).length = l.length + t.size := by rw [List.length_append, hfl]
    by_cases h1 : x.toNat = 63
    · have ep : postR t (x.toNat :: (U T).drop (at_ + 1)) = postR (.alt t .nil) ((U T).drop (at_ + 1)) := by rw [postR, if_pos h1]
      rw [ep]
      obtain ⟨H1, c1, r1⟩ := add_ok h (by omega) ⟨1, 0, 0, 0⟩
      obtain ⟨H2, c2, r2⟩ := add_ok r1 (by simp; omega) ⟨4, 0, ((l.length + t.size - 1 : Nat) : Int), ((l.length + t.size : Nat) : Int)⟩
      obtain ⟨vl2, t2, p2⟩ := r2.text
      have r3 : RB H0 (put H2 b T (at_ + 1) vl2) b T (at_ + 1) (l ++ (Rx.alt t .nil).flat l.length) := by
        have := p2 (put_keep (at_ + 1)) (t2.put (at_ + 1))
        have e : (l ++ t.flat l.length) ++ [⟨1, 0, 0, 0⟩] ++ [⟨4, 0, ((l.length + t.size - 1 : Nat) : Int), ((l.length + t.size : Nat) : Int)⟩] = l ++ (Rx.alt t .nil).flat l.length := by
          simp [Rx.flat, Rx.size]
        rw [e] at this
        exact this
      obtain ⟨at', H', g1, g2, g3, g4⟩ := ih (at_ + 1) (.alt t .nil) _ (by omega) (by omega) r3 (by simp [Rx.size]; omega)
      refine ⟨at', H', g1, g2, Ev.step (fun n m => f83_L0.eq_2 _ _ _ _ _ _ m) ?_, g4⟩
      have ei : (((l ++ t.flat l.length) ++ [(⟨1, 0, 0, 0⟩ : Nd)]).length : Int) = ((l.length + (Rx.alt t .nil).size - 1 : Nat) : Int) := by
        simp [Rx.size, hfl]
      rw [ei] at c2
      rw [hll] at c1
      simp only [ruA, ruB, ruC, ruE, ruD, lenStr, Int.reduceBEq, Int.reduceBNe, ruP, t1.ld0, t1.ld1, bs_size, idx_lt (show at_ < T.length by omega), bs_idx hx, q63, decide_eq_true h1, nd_nil]
      refine callQ_of c1 (by kernel_rfl) rfl ?_
      simp only [ruA, ruB, ruC, ruE, ruD, lenStr, Int.reduceBEq, Int.reduceBNe, ruP, nd_two]
      refine callQ_of c2 (by kernel_rfl) rfl ?_
      simp only [ruA, ruB, ruC, ruE, ruD, lenStr, Int.reduceBEq, Int.reduceBNe, ruP, t2.ld1, idx_up (show at_ < 9223372036854775807 by omega), t2.st1]
      exact g3
    · by_cases h2 : x.toNat = 43
      · have ep : postR t (x.toNat :: (U T).drop (at_ + 1)) = postR (.plus t) ((U T).drop (at_ + 1)) := by rw [postR, if_neg h1, if_pos h2]
        rw [ep]
        obtain ⟨H1, c1, r1⟩ := add_ok h (by omega) ⟨6, 0, ((l.length + t.size - 1 : Nat) : Int), 0⟩
        obtain ⟨vl2, t2, p2⟩ := r1.text
        have r3 : RB H0 (put H1 b T (at_ + 1) vl2) b T (at_ + 1) (l ++ (Rx.plus t).flat l.length) := by
          have := p2 (put_keep (at_ + 1)) (t2.put (at_ + 1))
          have e : (l ++ t.flat l.length) ++ [⟨6, 0, ((l.length + t.size - 1 : Nat) : Int), 0⟩] = l ++ (Rx.plus t).flat l.length := by
            simp [Rx.flat]
          rw [e] at this
          exact this
        obtain ⟨at', H', g1, g2, g3, g4⟩ := ih (at_ + 1) (.plus t) _ (by omega) (by omega) r3 (by simp [Rx.size]; omega)
        refine ⟨at', H', g1, g2, Ev.step (fun n m => f83_L0.eq_2 _ _ _ _ _ _ m) ?_, g4⟩
        have ei : l.length + t.size = l.length + (Rx.plus t).size - 1 := by simp [Rx.size]
        rw [hll, ei] at c1
        simp only [ruA, ruB, ruC, ruE, ruD, lenStr, Int.reduceBEq, Int.reduceBNe, ruP, t1.ld0, t1.ld1, bs_size, idx_lt (show at_ < T.length by omega), bs_idx hx, q63, decide_eq_false h1, q43, decide_eq_true h2, f83_J1, nd_one]
        refine callQ_of c1 (by kernel_rfl) rfl ?_
        simp only [ruA, ruB, ruC, ruE, ruD, lenStr, Int.reduceBEq, Int.reduceBNe, ruP, t2.ld1, idx_up (show at_ < 9223372036854775807 by omega), t2.st1]
        exact g3
      · by_cases h3 : x.toNat = 42
        · have ep : postR t (x.toNat :: (U T).drop (at_ + 1)) = postR (.star t) ((U T).drop (at_ + 1)) := by rw [postR, if_neg h1, if_neg h2, if_pos h3]
          rw [ep]
          obtain ⟨H1, c1, r1⟩ := add_ok h (by omega) ⟨5, 0, ((l.length + t.size - 1 : Nat) : Int), 0⟩
          obtain ⟨vl2, t2, p2⟩ := r1.text
          have r3 : RB H0 (put H1 b T (at_ + 1) vl2) b T (at_ + 1) (l ++ (Rx.star t).flat l.length) := by
            have := p2 (put_keep (at_ + 1)) (t2.put (at_ + 1))
            have e : (l ++ t.flat l.length) ++ [⟨5, 0, ((l.length + t.size - 1 : Nat) : Int), 0⟩] = l ++ (Rx.star t).flat l.length := by
              simp [Rx.flat]
            rw [e] at this
            exact this
          obtain ⟨at', H', g1, g2, g3, g4⟩ := ih (at_ + 1) (.star t) _ (by omega) (by omega) r3 (by simp [Rx.size]; omega)
          refine ⟨at', H', g1, g2, Ev.step (fun n m => f83_L0.eq_2 _ _ _ _ _ _ m) ?_, g4⟩
          have ei : l.length + t.size = l.length + (Rx.star t).size - 1 := by simp [Rx.size]
          rw [hll, ei] at c1
          simp only [ruA, ruB, ruC, ruE, ruD, lenStr, Int.reduceBEq, Int.reduceBNe, ruP, t1.ld0, t1.ld1, bs_size, idx_lt (show at_ < T.length by omega), bs_idx hx, q63, decide_eq_false h1, q43, decide_eq_false h2, q42, decide_eq_true h3, f83_J1, nd_one]
          refine callQ_of c1 (by kernel_rfl) rfl ?_
          simp only [ruA, ruB, ruC, ruE, ruD, lenStr, Int.reduceBEq, Int.reduceBNe, ruP, t2.ld1, idx_up (show at_ < 9223372036854775807 by omega), t2.st1]
          exact g3
        · have ep : postR t (x.toNat :: (U T).drop (at_ + 1)) = (t, x.toNat :: (U T).drop (at_ + 1)) := by rw [postR, if_neg h1, if_neg h2, if_neg h3]
          rw [ep]
          refine ⟨at_, H, hat, hd.symm, Ev.step (fun n m => f83_L0.eq_2 _ _ _ _ _ _ m) ?_, h⟩
          simp only [ruA, ruB, ruC, ruE, ruD, lenStr, Int.reduceBEq, Int.reduceBNe, ruP, t1.ld0, t1.ld1, bs_size, idx_lt (show at_ < T.length by omega), bs_idx hx, q63, decide_eq_false h1, q43, decide_eq_false h2, q42, decide_eq_false h3]
          exact Ev.pure _
theorem atom_J1 {H : Heap} {at_ s p : Nat} (h : RB H0 H b T at_ l) (hl : l.length ≤ 100000) (hat : at_ ≤ T.length) (hp : H.get p = some ⟨SC s, 1, true⟩) : RdX (fun n _ => f94_J1 realP (AP n) n (ptr b 0) (ptr p 0) H) H0 b T l (.ok (.set s, (U T).drop at_)) := by
  obtain ⟨H1, c1, r1⟩ := add_ok h hl ⟨2, s, 0, 0⟩
  refine ⟨at_, H1, hat, rfl, ?_, r1⟩
  simp only [f94_J1, ruA, ruB, ruC, ruE, ruD, lenStr, Int.reduceBEq, Int.reduceBNe, ruP, ldAG hp (SC_len s), nd_set]
  refine callQ_of c1 (by kernel_rfl) rfl ?_
  exact Ev.pure _
end
end Go.Eng
