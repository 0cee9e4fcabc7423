import Derived.Test.YtimhmmeoliagjaaDoorYB
import Derived.Test.YtimhmmeoliagjaaDoorQU
set_option linter.unusedVariables false
set_option linter.unusedSimpArgs false
set_option linter.unusedSectionVars false
set_option maxRecDepth 100000
namespace Go.Eng
open Go Go.Proofs

def hexN (n : Nat) : Nat := if n < 10 then 48 + n else 87 + n
def byteN (no : List Nat) (c : Nat) : List Nat :=
  if c = 10 then [92, 110] else if c = 9 then [92, 116] else if c = 13 then [92, 114]
  else if 32 ≤ c ∧ c ≤ 126 ∧ c ∉ no then [c] else if c ∈ escL then [92, c] else [92, 120, hexN (c / 16), hexN (c % 16)]
theorem byteN_len (no : List Nat) (c : Nat) : (byteN no c).length ≤ 4 := by
  unfold byteN; repeat' split
  all_goals simp
theorem byteN_ne (no : List Nat) (c : Nat) : byteN no c ≠ [] := by
  unfold byteN; repeat' split
  all_goals simp
theorem strOf_bs (d : List Nat) : strOf d = bs (d.map UInt8.ofNat) := rfl
theorem s_add {P : Program} {t : TypeId} {a b : List Nat} (h : a.length + b.length < 9223372036854775807) : binB P .add t (.string (strOf a)) (.string (strOf b)) = some (.string (strOf (a ++ b))) := by
  simp only [binB, strB, strOf_bs, bs_size, List.length_map]
  rw [if_neg (by simp only [IntKind.max, IntKind.bits, IntKind.signed]; simp; omega), List.map_append, bs_append]
theorem to1 {H : Heap} {c : Nat} : bldS 1 1 [.int .u8 0] [(0, 1, .int .u8 (c : Int))] H = some (.slice (some ⟨H.n, 0, none⟩) 1 1, H.push ⟨[.int .u8 (c : Int)], 1, true⟩) := bld1 rfl rfl
theorem str1 {H : Heap} {c : Nat} : toStr (.slice (some ⟨H.n, 0, none⟩) 1 1) (H.push ⟨[.int .u8 (c : Int)], 1, true⟩) = some (.string (strOf [c]), H.push ⟨[.int .u8 (c : Int)], 1, true⟩) :=
  toStr_sl (R := all (H.push ⟨[.int .u8 (c : Int)], 1, true⟩)) (n := 1) (d := [c]) (.inr (.inr ⟨H.n, 0, none, 1, _, rfl, by simp [all, push_n], push_self, by simp, Nat.le_refl _, rfl⟩))
theorem to2 {H : Heap} {c d : Nat} : bldS 1 2 [.int .u8 0] [(0, 1, .int .u8 (c : Int)), (1, 1, .int .u8 (d : Int))] H = some (.slice (some ⟨H.n, 0, none⟩) 2 2, H.push ⟨[.int .u8 (c : Int), .int .u8 (d : Int)], 1, true⟩) := bld2 rfl rfl rfl rfl
theorem str2 {H : Heap} {c d : Nat} : toStr (.slice (some ⟨H.n, 0, none⟩) 2 2) (H.push ⟨[.int .u8 (c : Int), .int .u8 (d : Int)], 1, true⟩) = some (.string (strOf [c, d]), H.push ⟨[.int .u8 (c : Int), .int .u8 (d : Int)], 1, true⟩) :=
  toStr_sl (R := all (H.push ⟨[.int .u8 (c : Int), .int .u8 (d : Int)], 1, true⟩)) (n := 2) (d := [c, d]) (.inr (.inr ⟨H.n, 0, none, 2, _, rfl, by simp [all, push_n], push_self, by simp, Nat.le_refl _, rfl⟩))
theorem sgn_add {c : Nat} : binB Tryd.prog .add 9 (.string ⟨#[92]⟩) (.string (strOf [c])) = some (.string (strOf [92, c])) := s_add (a := [92]) (b := [c]) (by simp)
theorem hex_add {c d : Nat} : binB Tryd.prog .add 9 (.string ⟨#[92, 120]⟩) (.string (strOf [c, d])) = some (.string (strOf [92, 120, c, d])) := s_add (a := [92, 120]) (b := [c, d]) (by simp)
theorem dig_hi {c : Nat} (hc : c < 256) : idxS (.string ⟨#[48, 49, 50, 51, 52, 53, 54, 55, 56, 57, 97, 98, 99, 100, 101, 102]⟩) (.int .u8 ((c / 16 : Nat) : Int)) = some (.int .u8 ((hexN (c / 16) : Nat) : Int)) := by
  have h : c / 16 < 16 := by omega
  generalize c / 16 = k at h
  have h1 : ∀ k, k < 16 → digT[k]? = some (UInt8.ofNat (hexN k)) ∧ hexN k < 256 := by decide +kernel
  obtain ⟨h2, h3⟩ := h1 k h
  show (if 0 ≤ (k : Int) then (digT[(k : Int).toNat]?).map fun c => Value.int .u8 c.toNat else none) = _
  rw [if_pos (by omega), Int.toNat_natCast, h2]
  simp [UInt8.toNat_ofNat, Nat.mod_eq_of_lt h3]
theorem u8_shr4 {c : Nat} (hc : c < 256) : binB Tryd.prog .shr 5 (.int .u8 (c : Int)) (.int .u64 4) = some (.int .u8 ((c / 16 : Nat) : Int)) := by
  rw [b_shr (by decide)]
  congr 2
  show (c : Int).fdiv 16 = _
  rw [Int.fdiv_eq_ediv_of_nonneg _ (by omega)]
  norm_cast
theorem u8_and15 {c : Nat} (hc : c < 256) : binB Tryd.prog .and 5 (.int .u8 (c : Int)) (.int .u8 15) = some (.int .u8 ((c % 16 : Nat) : Int)) := by
  rw [b_and]
  congr 2
  have h := List.all_eq_true.1 (show (List.range 256).all (fun c => IntKind.u8.wrap (((BitVec.ofInt IntKind.u8.bits (c : Int) &&& BitVec.ofInt IntKind.u8.bits 15).toNat : Nat) : Int) == ((c % 16 : Nat) : Int)) = true by kernel_rfl) c (List.mem_range.2 hc)
  exact eq_of_beq h
section
variable {E : Ext} {noT : List UInt8} {noL : List Nat} (h89 : E 89 = none) (h98 : E 98 = none) (hno : ∀ c, c < 256 → (0 ≤ idxOf noT c) = (c ∈ noL))
theorem bt_round {H : Heap} {vs x1 : Value} {c a i j : Nat} (hs : Sl (all H) H 2 vs 3 LTC) (hj : j < 3) (hc : cut LTC (j * 2) 2 = [.int .u8 (a : Int), .int .u8 (i : Int)]) :
    (c = i → ∃ H', Ev (fun n m => f77_L0 real (acall Tryd.prog true E n) n m (.int .u8 (c : Int)) x1 vs (.int .i64 3) (.int .i64 (j : Int)) H) (.string (strOf [92, a]), H') ∧ Keep (all H) H H') ∧
    (c ≠ i → ∀ x, Ev (fun n m => f77_L0 real (acall Tryd.prog true E n) n m (.int .u8 (c : Int)) x1 vs (.int .i64 3) (.int .i64 ((j + 1 : Nat) : Int)) (H.push ⟨[.int .u8 (a : Int), .int .u8 (i : Int)], 1, true⟩)) x → Ev (fun n m => f77_L0 real (acall Tryd.prog true E n) n m (.int .u8 (c : Int)) x1 vs (.int .i64 3) (.int .i64 (j : Int)) H) x) := by
  obtain ⟨p, o, p1, _, _, p2⟩ := hs.atN hj
  rw [hc] at p2
  have e3 : ((j : Int) < 3) = True := eq_true (by omega)
  obtain ⟨H1, hH1⟩ : ∃ H1, H.push ⟨[.int .u8 (a : Int), .int .u8 (i : Int)], 1, true⟩ = H1 := ⟨_, rfl⟩
  have g1 : H1.get H.n = some ⟨[.int .u8 (a : Int), .int .u8 (i : Int)], 1, true⟩ := by rw [← hH1]; exact push_self
  have nv : newV [.int .u8 0, .int .u8 0] H = some (ptr H.n 0, H.push ⟨[.int .u8 0, .int .u8 0], 1, true⟩) := newV_box rfl
  have st : stV 2 (ptr H.n 0) (.agg [.int .u8 (a : Int), .int .u8 (i : Int)].toArray) (H.push ⟨[.int .u8 0, .int .u8 0], 1, true⟩) = some (undef, H1) := by rw [← hH1]; exact stA_push (cs := [.int .u8 0, .int .u8 0]) (ds := [.int .u8 (a : Int), .int .u8 (i : Int)]) (n := 2) rfl rfl rfl
  have q1 : ldC (ptr H.n 1) H1 = some (.int .u8 (i : Int), H1) := ldG g1 rfl
  have q0 : ldC (ptr H.n 0) H1 = some (.int .u8 (a : Int), H1) := ldG g1 rfl
  have hk1 : Keep (all H) H H1 := by rw [← hH1]; exact push_keep
  rw [hH1]
  constructor
  · rintro rfl
    refine ⟨H1.push ⟨[.int .u8 (a : Int)], 1, true⟩, Ev.step (fun n m => f77_L0.eq_2 _ _ _ _ _ _ _ _ _ m) ?_, hk1.trans (push_keep.mono (upA hk1))⟩
    have e : ((c : Int) == (c : Int)) = true := by simp
    simp only [ruA, ruB, ruC, ruE, ruD, lenStr, Int.reduceBEq, Int.reduceBNe, e3, p1, p2, nv, st, q0, q1, e, to1, str1, sgn_add]
    exact Ev.pure _
  · intro hca x hx
    refine Ev.step (fun n m => f77_L0.eq_2 _ _ _ _ _ _ _ _ _ m) ?_
    have e : ((i : Int) == (c : Int)) = false := by rw [k_eq']; exact decide_eq_false fun e => hca e.symm
    simp only [ruA, ruB, ruC, ruE, ruD, lenStr, Int.reduceBEq, Int.reduceBNe, e3, p1, p2, nv, st, q1, e, idx_up (show j < 9223372036854775807 by omega)]
    exact hx
include h89 h98 hno
theorem bt_tail {H : Heap} {vs : Value} {c : Nat} (hc : c < 256) (h1 : c ≠ 10) (h2 : c ≠ 9) (h3 : c ≠ 13) :
    ∃ H', Ev (fun n m => f77_L0 real (acall Tryd.prog true E n) n m (.int .u8 (c : Int)) (.string (bs noT)) vs (.int .i64 3) (.int .i64 3) H) (.string (strOf (byteN noL c)), H') ∧ Keep (all H) H H' := by
  have hix := index_cl h89 h98 noT hc H
  have hie := index_cl h89 h98 escT hc H
  have e3 : ((3 : Int) < 3) = False := by simp
  have byt : byteN noL c = if 32 ≤ c ∧ c ≤ 126 ∧ c ∉ noL then [c] else if c ∈ escL then [92, c] else [92, 120, hexN (c / 16), hexN (c % 16)] := by
    unfold byteN; rw [if_neg h1, if_neg h2, if_neg h3]
  have rest : (¬ (32 ≤ c ∧ c ≤ 126 ∧ c ∉ noL)) → ∃ H', Ev (fun n m => bnd (acall Tryd.prog true E n 89 [.string (bs escT), .int .u8 (c : Int)] H) fun x41 H61 => bnd (up (binB Tryd.prog .geq 3 x41 (.int .i64 0)) H61) fun x42 H63 =>
      iff x42 (bnd (bldS 1 1 [(.int .u8 0)] [(0, 1, .int .u8 (c : Int))] H63) fun x44 H65 => bnd (toStr x44 H65) fun x45 H67 => bnd (up (binB Tryd.prog .add 9 (.string ⟨#[92]⟩) x45) H67) fun x46 H69 => some (x46, H69))
      (bnd (up (binB Tryd.prog .shr 5 (.int .u8 (c : Int)) (.int .u64 4)) H63) fun x48 H71 =>
      bnd (up (idxS (.string ⟨#[48, 49, 50, 51, 52, 53, 54, 55, 56, 57, 97, 98, 99, 100, 101, 102]⟩) x48) H71) fun x49 H73 =>
      bnd (up (binB Tryd.prog .and 5 (.int .u8 (c : Int)) (.int .u8 15)) H73) fun x51 H75 =>
      bnd (up (idxS (.string ⟨#[48, 49, 50, 51, 52, 53, 54, 55, 56, 57, 97, 98, 99, 100, 101, 102]⟩) x51) H75) fun x52 H77 =>
      bnd (bldS 1 2 [(.int .u8 0)] [(0, 1, x49), (1, 1, x52)] H77) fun x53 H79 =>
      chk true (bnd (toStr x53 H79) fun x54 H81 => bnd (up (binB Tryd.prog .add 9 (.string ⟨#[92, 120]⟩) x54) H81) fun x55 H83 => some (x55, H83)))) (.string (strOf (byteN noL c)), H') ∧ Keep (all H) H H' := by
    intro hno'
    rw [byt, if_neg hno']
    by_cases hm : c ∈ escL
    · rw [if_pos hm]
      have e : (idxOf escT c ≥ 0) = True := eq_true (by show 0 ≤ idxOf escT c; rw [esc_mem hc]; exact hm)
      refine ⟨H.push ⟨[.int .u8 (c : Int)], 1, true⟩, Ev.callC hie ?_, push_keep⟩
      simp only [ruA, ruB, ruC, ruE, ruD, lenStr, Int.reduceBEq, Int.reduceBNe, e, to1, str1, sgn_add]
      exact Ev.pure _
    · rw [if_neg hm]
      have e : (idxOf escT c ≥ 0) = False := eq_false (by show ¬ 0 ≤ idxOf escT c; rw [esc_mem hc]; exact hm)
      have dl : idxS (.string ⟨#[48, 49, 50, 51, 52, 53, 54, 55, 56, 57, 97, 98, 99, 100, 101, 102]⟩) (.int .u8 ((c % 16 : Nat) : Int)) = some (.int .u8 ((hexN (c % 16) : Nat) : Int)) := by
        have := dig_hi (c := (c % 16) * 16) (by omega)
        rwa [show c % 16 * 16 / 16 = c % 16 by omega] at this
      refine ⟨H.push ⟨[.int .u8 ((hexN (c / 16) : Nat) : Int), .int .u8 ((hexN (c % 16) : Nat) : Int)], 1, true⟩, Ev.callC hie ?_, push_keep⟩
      simp only [ruA, ruB, ruC, ruE, ruD, lenStr, Int.reduceBEq, Int.reduceBNe, e, u8_shr4 hc, dig_hi hc, u8_and15 hc, dl, to2, str2, hex_add]
      exact Ev.pure _
  by_cases h32 : 32 ≤ c
  · have e32 : ((c : Int) ≥ 32) = True := eq_true (by omega)
    by_cases h126 : c ≤ 126
    · have e126 : ((c : Int) ≤ 126) = True := eq_true (by omega)
      by_cases hn : c ∈ noL
      · have e : (idxOf noT c < 0) = False := eq_false (by have := hno c hc; rw [← this] at hn; omega)
        obtain ⟨H', r1, r2⟩ := rest fun h => h.2.2 hn
        refine ⟨H', Ev.step (fun n m => f77_L0.eq_2 _ _ _ _ _ _ _ _ _ m) ?_, r2⟩
        simp only [ruA, ruB, ruC, ruE, ruD, lenStr, Int.reduceBEq, Int.reduceBNe, e3, e32, e126]
        refine Ev.callC hix ?_
        simp only [ruA, ruB, ruC, ruE, ruD, lenStr, Int.reduceBEq, Int.reduceBNe, e]
        exact r1
      · have e : (idxOf noT c < 0) = True := eq_true (by have := hno c hc; rw [← this] at hn; omega)
        rw [byt, if_pos ⟨h32, h126, hn⟩]
        refine ⟨H.push ⟨[.int .u8 (c : Int)], 1, true⟩, Ev.step (fun n m => f77_L0.eq_2 _ _ _ _ _ _ _ _ _ m) ?_, push_keep⟩
        simp only [ruA, ruB, ruC, ruE, ruD, lenStr, Int.reduceBEq, Int.reduceBNe, e3, e32, e126]
        refine Ev.callC hix ?_
        simp only [ruA, ruB, ruC, ruE, ruD, lenStr, Int.reduceBEq, Int.reduceBNe, e, to1, str1]
        exact Ev.pure _
    · have e126 : ((c : Int) ≤ 126) = False := eq_false (by omega)
      obtain ⟨H', r1, r2⟩ := rest fun h => h126 h.2.1
      refine ⟨H', Ev.step (fun n m => f77_L0.eq_2 _ _ _ _ _ _ _ _ _ m) ?_, r2⟩
      simp only [ruA, ruB, ruC, ruE, ruD, lenStr, Int.reduceBEq, Int.reduceBNe, e3, e32, e126]
      exact r1
  · have e32 : ((c : Int) ≥ 32) = False := eq_false (by omega)
    obtain ⟨H', r1, r2⟩ := rest fun h => h32 h.1
    refine ⟨H', Ev.step (fun n m => f77_L0.eq_2 _ _ _ _ _ _ _ _ _ m) ?_, r2⟩
    simp only [ruA, ruB, ruC, ruE, ruD, lenStr, Int.reduceBEq, Int.reduceBNe, e3, e32]
    exact r1
theorem bt_ok (h77 : E 77 = none) {H : Heap} (hL : Lt (all H) H) {c : Nat} (hc : c < 256) :
    ∃ H', ClP Tryd.prog true E 77 [.int .u8 (c : Int), .string (bs noT)] H (.string (strOf (byteN noL c))) H' ∧ Keep (all H) H H' := by
  obtain ⟨vs, s, o, h0, g0, hs⟩ := hL
  have gl : ldC (.pointer (some ⟨0, 0, none⟩)) H = some (vs, H) := ldG (b := 0) (k := 0) g0 rfl
  have go : ∀ y, Ev (fun n m => f77_L0 real (acall Tryd.prog true E n) n m (.int .u8 (c : Int)) (.string (bs noT)) vs (.int .i64 3) (.int .i64 0) H) y → Ev (fun n _ => acall Tryd.prog true E n 77 [.int .u8 (c : Int), .string (bs noT)] H) y := fun y hy => by
    refine Ev.enter (fun n => f77_eq h77 n _ _ _) ?_
    simp only [f77, ruA, ruB, ruC, ruE, ruD, lenStr, Int.reduceBEq, Int.reduceBNe, gl, hs.lenS]
    exact Ev.loop hy
  obtain ⟨a1, b1⟩ := bt_round (E := E) (x1 := .string (bs noT)) (c := c) (j := 0) (a := 110) (i := 10) hs (by omega) rfl
  by_cases h1 : c = 10
  · obtain ⟨H', r1, r2⟩ := a1 h1
    refine ⟨H', go _ ?_, r2⟩
    have : byteN noL c = [92, 110] := by unfold byteN; rw [if_pos h1]
    rw [this]; exact r1
  have k1 : Keep (all H) H (H.push ⟨[.int .u8 (110 : Nat), .int .u8 (10 : Nat)], 1, true⟩) := push_keep
  have s1 := (hs.keep k1).mono (upA k1)
  obtain ⟨a2, b2⟩ := bt_round (E := E) (x1 := .string (bs noT)) (c := c) (j := 1) (a := 116) (i := 9) s1 (by omega) rfl
  by_cases h2 : c = 9
  · obtain ⟨H', r1, r2⟩ := a2 h2
    refine ⟨H', go _ (b1 h1 _ ?_), k1.trans (r2.mono (upA k1))⟩
    have : byteN noL c = [92, 116] := by unfold byteN; rw [if_neg h1, if_pos h2]
    rw [this]; exact r1
  have k2 := k1.trans (push_keep (H := H.push ⟨[.int .u8 (110 : Nat), .int .u8 (10 : Nat)], 1, true⟩) (blk := ⟨[.int .u8 (116 : Nat), .int .u8 (9 : Nat)], 1, true⟩) |>.mono (upA k1))
  have s2 := (hs.keep k2).mono (upA k2)
  obtain ⟨a3, b3⟩ := bt_round (E := E) (x1 := .string (bs noT)) (c := c) (j := 2) (a := 114) (i := 13) s2 (by omega) rfl
  by_cases h3 : c = 13
  · obtain ⟨H', r1, r2⟩ := a3 h3
    refine ⟨H', go _ (b1 h1 _ (b2 h2 _ ?_)), k2.trans (r2.mono (upA k2))⟩
    have : byteN noL c = [92, 114] := by unfold byteN; rw [if_neg h1, if_neg h2, if_pos h3]
    rw [this]; exact r1
  have k3 := k2.trans (push_keep (blk := ⟨[.int .u8 (114 : Nat), .int .u8 (13 : Nat)], 1, true⟩) |>.mono (upA k2))
  obtain ⟨H', r1, r2⟩ := bt_tail h89 h98 hno (vs := vs) (H := ((H.push ⟨[.int .u8 (110 : Nat), .int .u8 (10 : Nat)], 1, true⟩).push ⟨[.int .u8 (116 : Nat), .int .u8 (9 : Nat)], 1, true⟩).push ⟨[.int .u8 (114 : Nat), .int .u8 (13 : Nat)], 1, true⟩) hc h1 h2 h3
  exact ⟨H', go _ (b1 h1 _ (b2 h2 _ (b3 h3 _ r1))), k3.trans (r2.mono (upA k3))⟩
end
end Go.Eng
