import Derived.Test.YtimhmmeoliagjaaDoorYF
import Derived.Test.YtimhmmeoliagjaaDoorYE
import Derived.Test.YtimhmmeoliagjaaDoorQY
set_option linter.unusedVariables false
set_option linter.unusedSimpArgs false
set_option linter.unusedSectionVars false
set_option maxRecDepth 100000
namespace Go.Eng
open Go Go.Proofs

abbrev ClX (f : FuncId) (args : List Value) (H : Heap) (v : Value) (H' : Heap) : Prop := ClP Tryd.prog true EX f args H v H'
noncomputable abbrev AX (n : Nat) : CallF := acall Tryd.prog true EX n
theorem blk_keep {H H' : Heap} {b k : Nat} (hb : b < H.n) (h : Keep (all H) H H') : sameBlk H H' (blkOf (ptr b k)) = true := sameBlk_of fun c hc => by
  simp only [blkOf, ptr, Option.some.injEq] at hc
  subst hc
  rw [h.2 _ hb]
theorem i64_and127 {a : Nat} (h : a < 4611686018427387904) : binB Tryd.prog .and 3 (.int .i64 (a : Int)) (.int .i64 127) = some (.int .i64 ((a % 128 : Nat) : Int)) := by
  rw [b_and]
  have h1 : (BitVec.ofInt IntKind.i64.bits (a : Int) &&& BitVec.ofInt IntKind.i64.bits 127).toNat = a % 128 := by
    rw [BitVec.toNat_and]
    show (BitVec.ofInt 64 (a : Int)).toNat &&& (BitVec.ofInt 64 ((127 : Nat) : Int)).toNat = _
    rw [bv64 (by omega), bv64 (by decide)]
    exact Nat.and_two_pow_sub_one_eq_mod a 7
  rw [h1, wrap_i64 (by omega) (by omega)]
theorem ones_cl {x : Nat} (hx : x < 18446744073709551616) (H : Heap) : ClX 86 [.int .u64 (x : Int)] H (.int .i64 (ones x : Int)) H := by
  refine Ev.enter (fun n => f86_eq rfl n _ _) ?_
  have m85 : mk 85 8 = 6148914691236517205 := by decide +kernel
  have m51 : mk 51 8 = 3689348814741910323 := by decide +kernel
  have m15 : mk 15 8 = 1085102592571150095 := by decide +kernel
  have l1 : ∀ y, y &&& 6148914691236517205 ≤ 6148914691236517205 := fun y => Nat.and_le_right
  have l2 : ∀ y, y &&& 3689348814741910323 ≤ 3689348814741910323 := fun y => Nat.and_le_right
  obtain ⟨a, ha⟩ : ∃ a, oc1 8 x = a := ⟨_, rfl⟩
  obtain ⟨b, hb⟩ : ∃ b, oc2 8 a = b := ⟨_, rfl⟩
  obtain ⟨c, hc⟩ : ∃ c, oc3 8 b = c := ⟨_, rfl⟩
  have ea : (x / 2 &&& 6148914691236517205) + (x &&& 6148914691236517205) = a := by rw [← ha, oc1, m85]
  have eb : (a / 4 &&& 3689348814741910323) + (a &&& 3689348814741910323) = b := by rw [← hb, oc2, m51]
  have ec : (b / 16 + b) &&& 1085102592571150095 = c := by rw [← hc, oc3, m15]
  have la : a < 18446744073709551616 := by have := l1 (x / 2); have := l1 x; omega
  have lb : b ≤ 7378697629483820646 := by have := l2 (a / 4); have := l2 a; omega
  have lc : c ≤ 8 * 72340172838076673 := by rw [← hc, ← hb, ← ha]; exact ones_small x
  have s1 : binB Tryd.prog .shr 54 (.int .u64 (x : Int)) (.int .u64 1) = some (.int .u64 ((x / 2 : Nat) : Int)) := u64_shr (k := 1) (by decide)
  have s2 : binB Tryd.prog .and 54 (.int .u64 ((x / 2 : Nat) : Int)) (.int .u64 6148914691236517205) = some (.int .u64 ((x / 2 &&& 6148914691236517205 : Nat) : Int)) := u64_and (b := 6148914691236517205) (by omega) (by decide)
  have s3 : binB Tryd.prog .and 54 (.int .u64 (x : Int)) (.int .u64 6148914691236517205) = some (.int .u64 ((x &&& 6148914691236517205 : Nat) : Int)) := u64_and (b := 6148914691236517205) hx (by decide)
  have w1 : IntKind.u64.wrap (((x / 2 &&& 6148914691236517205 : Nat) : Int) + ((x &&& 6148914691236517205 : Nat) : Int)) = (a : Int) := by rw [← Int.natCast_add, ea, wrap_u64 la]
  have s4 : binB Tryd.prog .shr 54 (.int .u64 (a : Int)) (.int .u64 2) = some (.int .u64 ((a / 4 : Nat) : Int)) := u64_shr (k := 2) (by decide)
  have s5 : binB Tryd.prog .and 54 (.int .u64 ((a / 4 : Nat) : Int)) (.int .u64 3689348814741910323) = some (.int .u64 ((a / 4 &&& 3689348814741910323 : Nat) : Int)) := u64_and (b := 3689348814741910323) (by omega) (by decide)
  have s6 : binB Tryd.prog .and 54 (.int .u64 (a : Int)) (.int .u64 3689348814741910323) = some (.int .u64 ((a &&& 3689348814741910323 : Nat) : Int)) := u64_and (b := 3689348814741910323) la (by decide)
  have w2 : IntKind.u64.wrap (((a / 4 &&& 3689348814741910323 : Nat) : Int) + ((a &&& 3689348814741910323 : Nat) : Int)) = (b : Int) := by rw [← Int.natCast_add, eb, wrap_u64 (by omega)]
  have s7 : binB Tryd.prog .shr 54 (.int .u64 (b : Int)) (.int .u64 4) = some (.int .u64 ((b / 16 : Nat) : Int)) := u64_shr (k := 4) (by decide)
  have w3 : IntKind.u64.wrap (((b / 16 : Nat) : Int) + (b : Int)) = ((b / 16 + b : Nat) : Int) := by rw [← Int.natCast_add, wrap_u64 (by omega)]
  have s8 : binB Tryd.prog .and 54 (.int .u64 ((b / 16 + b : Nat) : Int)) (.int .u64 1085102592571150095) = some (.int .u64 (c : Int)) := by rw [← ec]; exact u64_and (b := 1085102592571150095) (by omega) (by decide)
  have s9 : binB Tryd.prog .shr 54 (.int .u64 (c : Int)) (.int .u64 8) = some (.int .u64 ((c / 256 : Nat) : Int)) := u64_shr (k := 8) (by decide)
  have w4 : IntKind.u64.wrap ((c : Int) + ((c / 256 : Nat) : Int)) = ((c + c / 256 : Nat) : Int) := by rw [← Int.natCast_add, wrap_u64 (by omega)]
  have s10 : binB Tryd.prog .shr 54 (.int .u64 ((c + c / 256 : Nat) : Int)) (.int .u64 16) = some (.int .u64 (((c + c / 256) / 65536 : Nat) : Int)) := u64_shr (k := 16) (by decide)
  have w5 : IntKind.u64.wrap (((c + c / 256 : Nat) : Int) + (((c + c / 256) / 65536 : Nat) : Int)) = ((c + c / 256 + (c + c / 256) / 65536 : Nat) : Int) := by rw [← Int.natCast_add, wrap_u64 (by omega)]
  have s11 : binB Tryd.prog .shr 54 (.int .u64 ((c + c / 256 + (c + c / 256) / 65536 : Nat) : Int)) (.int .u64 32) = some (.int .u64 (((c + c / 256 + (c + c / 256) / 65536) / 4294967296 : Nat) : Int)) := u64_shr (k := 32) (by decide)
  have w6 : IntKind.u64.wrap (((c + c / 256 + (c + c / 256) / 65536 : Nat) : Int) + (((c + c / 256 + (c + c / 256) / 65536) / 4294967296 : Nat) : Int)) = ((c + c / 256 + (c + c / 256) / 65536 + (c + c / 256 + (c + c / 256) / 65536) / 4294967296 : Nat) : Int) := by rw [← Int.natCast_add, wrap_u64 (by omega)]
  have s12 : ∀ H : Heap, cvI .i64 (.int .u64 ((c + c / 256 + (c + c / 256) / 65536 + (c + c / 256 + (c + c / 256) / 65536) / 4294967296 : Nat) : Int)) H = some (.int .i64 ((c + c / 256 + (c + c / 256) / 65536 + (c + c / 256 + (c + c / 256) / 65536) / 4294967296 : Nat) : Int), H) := fun H => by
    simp only [cvI]; rw [wrap_i64 (by omega) (by omega)]
  have s13 := i64_and127 (a := c + c / 256 + (c + c / 256) / 65536 + (c + c / 256 + (c + c / 256) / 65536) / 4294967296) (by omega)
  have eo : ones x = (c + c / 256 + (c + c / 256) / 65536 + (c + c / 256 + (c + c / 256) / 65536) / 4294967296) % 128 := by unfold ones; rw [ha, hb, hc]; rfl
  rw [eo]
  simp only [f86, ruA, ruB, ruC, ruE, ruD, lenStr, Int.reduceBEq, Int.reduceBNe, s1, s2, s3, w1, s4, s5, s6, w2, s7, w3, s8, s9, w4, s10, w5, s11, w6, s12, s13]
  exact Ev.pure _
theorem setL_ones (s : Nat) : (setL s).length = ones (wrd s 0) + ones (wrd s 1) + ones (wrd s 2) + ones (wrd s 3) := by
  unfold setL
  rw [List.length_append, List.length_append, List.length_append, ones_ok 0, ones_ok 64, ones_ok 128, ones_ok 192]
  omega
theorem ones_le (x : Nat) : ones x ≤ 64 := by rw [ones_ok 0]; exact bitsF_len _ _ _
theorem SC_idx (s : Nat) {i : Nat} (h : i < 4) : idxA false 4 1 (.agg (SC s).toArray) (.int .i64 (i : Int)) = some (.int .u64 (wrd s i : Int)) := by
  rcases four h with rfl | rfl | rfl | rfl <;> rfl
theorem slen_ok (s : Nat) (H : Heap) : ClX 74 [.agg (SC s).toArray] H (.int .i64 ((setL s).length : Int)) (H.push ⟨SC s, 1, true⟩) := by
  have rnd : ∀ (i a : Nat) r, i < 4 → a ≤ 1000 → Ev (fun n m => f74_L0 real (AX n) n m (.int .i64 ((a + ones (wrd s i) : Nat) : Int)) (.agg (SC s).toArray) (.int .i64 ((i + 1 : Nat) : Int)) (H.push ⟨SC s, 1, true⟩)) r →
      Ev (fun n m => f74_L0 real (AX n) n m (.int .i64 (a : Int)) (.agg (SC s).toArray) (.int .i64 (i : Int)) (H.push ⟨SC s, 1, true⟩)) r := fun i a r hi ha h => by
    refine Ev.step (fun n m => f74_L0.eq_2 _ _ _ _ _ _ _ m) ?_
    have e : ((i : Int) < 4) = True := eq_true (by omega)
    simp only [ruA, ruB, ruC, ruE, ruD, lenStr, Int.reduceBEq, Int.reduceBNe, e, SC_idx s hi]
    refine Ev.callC (ones_cl (wrd_lt _ _) _) ?_
    have h1 := ones_le (wrd s i)
    have w : IntKind.i64.wrap ((a : Int) + (ones (wrd s i) : Int)) = ((a + ones (wrd s i) : Nat) : Int) := by rw [← Int.natCast_add, wrap_i64 (by omega) (by omega)]
    simp only [ruA, ruB, ruC, ruE, ruD, lenStr, Int.reduceBEq, Int.reduceBNe, w, idx_up (show i < 9223372036854775807 by omega)]
    exact h
  have l0 := ones_le (wrd s 0)
  have l1 := ones_le (wrd s 1)
  have l2 := ones_le (wrd s 2)
  have fin : Ev (fun n m => f74_L0 real (AX n) n m (.int .i64 0) (.agg (SC s).toArray) (.int .i64 0) (H.push ⟨SC s, 1, true⟩)) (.int .i64 ((setL s).length : Int), H.push ⟨SC s, 1, true⟩) := by
   refine rnd 0 0 _ (by omega) (by omega) (rnd 1 _ _ (by omega) (by omega) (rnd 2 _ _ (by omega) (by omega) (rnd 3 _ _ (by omega) (by omega) ?_)))
   refine Ev.step (fun n m => f74_L0.eq_2 _ _ _ _ _ _ _ m) ?_
   have e : (((3 + 1 : Nat) : Int) < 4) = False := by simp
   rw [show ((setL s).length) = 0 + ones (wrd s 0) + ones (wrd s 1) + ones (wrd s 2) + ones (wrd s 3) by rw [setL_ones]; omega]
   simp only [ruA, ruB, ruC, ruE, ruD, lenStr, Int.reduceBEq, Int.reduceBNe, e]
   exact Ev.pure _
  refine Ev.enter (fun n => f74_eq rfl n _ _) ?_
  simp only [f74, ruA, ruB, ruC, ruE, ruD, lenStr, Int.reduceBEq, Int.reduceBNe, newA (SC_one s), ldAG (H := H.push ⟨SC s, 1, true⟩) push_self (SC_len _)]
  exact Ev.loop fin
def setN (s : Nat) : List Nat :=
  if (setL s).length = 0 then 91 :: 94 :: clsN (notS s) ++ [93]
  else if (setL s).length = 1 then byteN signsL ((setL s).headD 0)
  else if sameS s (notS (ofS [10])) then [46]
  else if 128 < (setL s).length ∧ (setL s).length < 256 then 91 :: 94 :: clsN (notS s) ++ [93]
  else 91 :: clsN s ++ [93]
theorem listN_len (tx : Nat → List Nat) (l : List Nat) (htx : ∀ c, (tx c).length ≤ 4) : ∀ (f i : Nat), (listN tx l f i).length ≤ 9 * f
  | 0, i => by simp [listN]
  | f + 1, i => by
    have h1 := htx (l.getD i 0)
    have h2 := htx (l.getD (runE l l.length i) 0)
    have h3 := listN_len tx l htx f (runE l l.length i + 1)
    have h4 := listN_len tx l htx f (i + 1)
    rw [listN]
    split
    · split
      · simp only [List.length_append, List.length_cons]; omega
      · simp only [List.length_append]; omega
    · simp
theorem clsN_len (s : Nat) : (clsN s).length ≤ 2313 := listN_len _ _ (byteN_len _) 257 0
theorem setN_len (s : Nat) : (setN s).length ≤ 2316 := by
  have h1 := clsN_len s
  have h2 := clsN_len (notS s)
  have h3 := byteN_len signsL ((setL s).headD 0)
  unfold setN
  repeat' split
  all_goals first
    | exact Nat.le_trans h3 (by omega)
    | (simp only [List.length_append, List.length_cons, List.length_nil]; omega)
theorem leastV_eq (s : Nat) : ∃ b : Bool, leastV s = .tuple #[.int .u8 ((setL s).headD 0 : Int), .bool b] := by
  unfold leastV
  split
  · rename_i h; exact ⟨_, by rw [h]; rfl⟩
  · rename_i c l h; exact ⟨_, by rw [h]; rfl⟩
theorem cls_add (s : Nat) : binB Tryd.prog .add 9 (.string ⟨#[91, 94]⟩) (.string (strOf (clsN s))) = some (.string (strOf (91 :: 94 :: clsN s))) ∧ binB Tryd.prog .add 9 (.string ⟨#[91]⟩) (.string (strOf (clsN s))) = some (.string (strOf (91 :: clsN s))) := by
  have h := clsN_len s
  exact ⟨s_add (a := [91, 94]) (by simp; omega), s_add (a := [91]) (by simp; omega)⟩
theorem end_add {d : List Nat} (h : d.length < 1000000) : binB Tryd.prog .add 9 (.string (strOf d)) (.string ⟨#[93]⟩) = some (.string (strOf (d ++ [93]))) := s_add (b := [93]) (by simp; omega)
theorem setT_ok {H : Heap} (hG : G9 H) (s : Nat) : ∃ H', ClX 55 [.agg (SC s).toArray] H (.string (strOf (setN s))) H' ∧ Keep (all H) H H' := by
  obtain ⟨H1, hH1⟩ : ∃ H1, H.push ⟨SC s, 1, true⟩ = H1 := ⟨_, rfl⟩
  have n1 : H1.n = H.n + 1 := by rw [← hH1]; rfl
  have k1 : Keep (all H) H H1 := by rw [← hH1]; exact push_keep
  have b1 : H1.get H.n = some ⟨SC s, 1, true⟩ := by rw [← hH1]; exact push_self
  obtain ⟨H2, hH2⟩ : ∃ H2, H1.push ⟨SC s, 1, true⟩ = H2 := ⟨_, rfl⟩
  have c2 := slen_ok s H1
  rw [hH2] at c2
  have k2' : Keep (all H1) H1 H2 := by rw [← hH2]; exact push_keep
  have k2 := k1.trans (k2'.mono (upA k1))
  have b2 : H2.get H.n = some ⟨SC s, 1, true⟩ := by rw [k2'.2 _ (show H.n < H1.n by omega)]; exact b1
  have hG2 := hG.keep k2
  obtain ⟨bb, hl⟩ := leastV_eq s
  have c3 := least_cl (E := EX) rfl hG2.2.2 s
  rw [hl] at c3
  obtain ⟨L, hL⟩ : ∃ L, (setL s).length = L := ⟨_, rfl⟩
  have hL256 : L ≤ 256 := by rw [← hL]; exact setL_len s
  rw [hL] at c2
  have hds := setN_len s
  unfold setN at hds ⊢
  rw [hL] at hds ⊢
  have pre : ∀ x, Ev (fun n m => iff (.bool ((L : Int) == 0)) (bnd (ldA 4 (ptr H.n 0) H2) fun x16 H18 => bnd (AX n 31 [x16] H18) fun x17 H20 => bnd (AX n 76 [x17] H20) fun x18 H22 =>
      bnd (up (binB Tryd.prog .add 9 (.string ⟨#[91, 94]⟩) x18) H22) fun x19 H24 => bnd (up (binB Tryd.prog .add 9 x19 (.string ⟨#[93]⟩)) H24) fun x20 H26 => some (x20, H26))
    (bnd (up (binB Tryd.prog .eql 3 (.int .i64 (L : Int)) (.int .i64 1)) H2) fun x23 H28 => iff x23 (bnd (AX n 77 [.int .u8 ((setL s).headD 0 : Int), .string ⟨#[40, 41, 91, 93, 124, 42, 43, 63, 46, 92, 47]⟩] H28) fun x25 H30 => some (x25, H30))
      (chk true (bnd (ldA 4 (ptr H.n 0) H28) fun x27 H32 => bnd (bldS 1 1 [(.int .u8 0)] [(0, 1, (.int .u8 10))] H32) fun x28 H34 => bnd (AX n 32 [x28] H34) fun x29 H36 =>
        chk (sameBlk H34 H36 (blkOf (ptr H.n 0)) && true) (bnd (AX n 31 [x29] H36) fun x30 H38 => chk (sameBlk H36 H38 (blkOf (ptr H.n 0)) && true) (bnd (up (binB Tryd.prog .eql 56 x27 x30) H38) fun x31 H40 =>
          iff x31 (some ((.string ⟨#[46]⟩), H40)) (bnd (up (binB Tryd.prog .gtr 3 (.int .i64 (L : Int)) (.int .i64 128)) H40) fun x34 H42 =>
            bnd (gd (wd x34 true) (some (.int .i64 (L : Int), H42)) H42) fun x36 H44 => bnd (gd (wd x34 true) (up (binB Tryd.prog .lss 3 x36 (.int .i64 256)) H44) H44) fun x37 H46 => bnd (pickV x34 x37 (.bool false) H46) fun x38 H48 =>
            iff x38 (bnd (ldA 4 (ptr H.n 0) H48) fun x39 H50 => bnd (AX n 31 [x39] H50) fun x40 H52 => bnd (AX n 76 [x40] H52) fun x41 H54 =>
              bnd (up (binB Tryd.prog .add 9 (.string ⟨#[91, 94]⟩) x41) H54) fun x42 H56 => bnd (up (binB Tryd.prog .add 9 x42 (.string ⟨#[93]⟩)) H56) fun x43 H58 => some (x43, H58))
            (bnd (ldA 4 (ptr H.n 0) H48) fun x44 H60 => bnd (AX n 76 [x44] H60) fun x45 H62 => bnd (up (binB Tryd.prog .add 9 (.string ⟨#[91]⟩) x45) H62) fun x46 H64 =>
              bnd (up (binB Tryd.prog .add 9 x46 (.string ⟨#[93]⟩)) H64) fun x47 H66 => some (x47, H66))))))))) x → Ev (fun n _ => AX n 55 [.agg (SC s).toArray] H) x := fun x hx => by
    refine Ev.enter (fun n => f55_eq rfl n _ _) ?_
    simp only [f55, ruA, newA (SC_one s), hH1, ldAG b1 (SC_len _)]
    refine Ev.callC c2 ?_
    simp only [ruA, ldAG b2 (SC_len _)]
    refine Ev.callC c3 ?_
    simp only [ruA, ruD, b_eql]
    exact hx
  have neg : ∀ (H3 : Heap), Keep (all H2) H2 H3 → ∃ H', Ev (fun n m => bnd (ldA 4 (ptr H.n 0) H3) fun x39 H50 => bnd (AX n 31 [x39] H50) fun x40 H52 => bnd (AX n 76 [x40] H52) fun x41 H54 =>
      bnd (up (binB Tryd.prog .add 9 (.string ⟨#[91, 94]⟩) x41) H54) fun x42 H56 => bnd (up (binB Tryd.prog .add 9 x42 (.string ⟨#[93]⟩)) H56) fun x43 H58 => some (x43, H58)) (.string (strOf (91 :: 94 :: clsN (notS s) ++ [93])), H') ∧ Keep (all H) H H' := fun H3 k3 => by
    have b3 : H3.get H.n = some ⟨SC s, 1, true⟩ := by rw [k3.2 _ (show H.n < H2.n by have := k2'.1; omega)]; exact b2
    have hG3 := hG2.keep k3
    obtain ⟨H4, c4, k4⟩ := snot_ok (E := EX) (H := H3) rfl s
    have c5 := list_cl (E := EX) rfl (hG3.keep k4) (notS s)
    refine ⟨H4, ?_, k2.trans ((k3.trans (k4.mono (upA k3))).mono (upA k2))⟩
    simp only [ruA, ruB, ruC, ruE, ruD, lenStr, Int.reduceBEq, Int.reduceBNe, ldAG b3 (SC_len _)]
    refine Ev.callC c4 ?_
    refine Ev.callC c5 ?_
    simp only [ruA, ruB, ruC, ruE, ruD, lenStr, Int.reduceBEq, Int.reduceBNe, (cls_add (notS s)).1, end_add (d := 91 :: 94 :: clsN (notS s)) (by have := clsN_len (notS s); simp; omega)]
    exact Ev.pure _
  by_cases h0 : L = 0
  · rw [if_pos h0]
    obtain ⟨H', r1, r2⟩ := neg H2 (Keep.refl _ _)
    refine ⟨H', pre _ ?_, r2⟩
    have e : ((L : Int) == 0) = true := by rw [h0]; rfl
    simp only [e, ruA]
    exact r1
  have e0 : ((L : Int) == 0) = false := by
    have := k_eq' (a := L) (k := 0)
    rw [decide_eq_false h0] at this; exact this
  rw [if_neg h0]
  by_cases h1 : L = 1
  · rw [if_pos h1]
    have hc : (setL s).headD 0 < 256 := by
      cases hs : setL s with
      | nil => exact (by decide : (0 : Nat) < 256)
      | cons c l => exact (setL_mem.1 (by rw [hs]; simp : c ∈ setL s)).1
    obtain ⟨H', r1, r2⟩ := bt_ok (E := EX) (noT := signsT) (noL := signsL) rfl rfl (fun c hc => signs_mem hc) rfl hG2.lt hc
    refine ⟨H', pre _ ?_, k2.trans (r2.mono (upA k2))⟩
    have e1 : ((L : Int) == 1) = true := by rw [h1]; rfl
    simp only [ruA, ruB, ruC, ruE, ruD, lenStr, Int.reduceBEq, Int.reduceBNe, e0, e1]
    refine Ev.callC r1 ?_
    exact Ev.pure _
  have e1 : ((L : Int) == 1) = false := by
    have := k_eq' (a := L) (k := 1)
    rw [decide_eq_false h1] at this; exact this
  rw [if_neg h1]
  obtain ⟨H3, hH3⟩ : ∃ H3, H2.push ⟨[.int .u8 10], 1, true⟩ = H3 := ⟨_, rfl⟩
  have k3 : Keep (all H2) H2 H3 := by rw [← hH3]; exact push_keep
  have sl3 : Sl (all H3) H3 1 (.slice (some ⟨H2.n, 0, none⟩) 1 1) [10].length (B [10]) := by
    rw [← hH3]
    exact .inr (.inr ⟨H2.n, 0, none, 1, _, rfl, by simp [all, push_n], push_self, by simp, Nat.le_refl _, rfl⟩)
  obtain ⟨H4, c4, k4⟩ := sof_ok (E := EX) rfl sl3 (by simp) (by simp)
  obtain ⟨H5, c5, k5⟩ := snot_ok (E := EX) (H := H4) rfl (ofS [10])
  have k35 : Keep (all H2) H2 H5 := k3.trans ((k4.trans (k5.mono (upA k4))).mono (upA k3))
  have hn3 : H.n < H3.n := by have := k2'.1; have := k3.1; omega
  have hn4 : H.n < H4.n := by have := k4.1; omega
  have t1 : bldS 1 1 [.int .u8 0] [(0, 1, .int .u8 10)] H2 = some (.slice (some ⟨H2.n, 0, none⟩) 1 1, H3) := by rw [← hH3]; exact to1 (c := 10)
  have pre2 : ∀ x, Ev (fun n m => iff (.bool (decide (sameS s (notS (ofS [10]))))) (some ((.string ⟨#[46]⟩), H5)) (bnd (up (binB Tryd.prog .gtr 3 (.int .i64 (L : Int)) (.int .i64 128)) H5) fun x34 H42 =>
            bnd (gd (wd x34 true) (some (.int .i64 (L : Int), H42)) H42) fun x36 H44 => bnd (gd (wd x34 true) (up (binB Tryd.prog .lss 3 x36 (.int .i64 256)) H44) H44) fun x37 H46 => bnd (pickV x34 x37 (.bool false) H46) fun x38 H48 =>
            iff x38 (bnd (ldA 4 (ptr H.n 0) H48) fun x39 H50 => bnd (AX n 31 [x39] H50) fun x40 H52 => bnd (AX n 76 [x40] H52) fun x41 H54 =>
              bnd (up (binB Tryd.prog .add 9 (.string ⟨#[91, 94]⟩) x41) H54) fun x42 H56 => bnd (up (binB Tryd.prog .add 9 x42 (.string ⟨#[93]⟩)) H56) fun x43 H58 => some (x43, H58))
            (bnd (ldA 4 (ptr H.n 0) H48) fun x44 H60 => bnd (AX n 76 [x44] H60) fun x45 H62 => bnd (up (binB Tryd.prog .add 9 (.string ⟨#[91]⟩) x45) H62) fun x46 H64 =>
              bnd (up (binB Tryd.prog .add 9 x46 (.string ⟨#[93]⟩)) H64) fun x47 H66 => some (x47, H66)))) x → Ev (fun n _ => AX n 55 [.agg (SC s).toArray] H) x := fun x hx => by
    refine pre _ ?_
    simp only [ruA, e0, e1, b_eql, ldAG b2 (SC_len _), t1]
    refine Ev.callC c4 ?_
    simp only [blk_keep hn3 k4, Bool.and_true, ruA]
    refine Ev.callC c5 ?_
    simp only [blk_keep hn4 k5, Bool.and_true, ruA, b_seteq]
    exact hx
  by_cases hs : sameS s (notS (ofS [10]))
  · rw [if_pos hs]
    refine ⟨H5, pre2 _ ?_, k2.trans (k35.mono (upA k2))⟩
    simp only [decide_eq_true hs, ruA]
    exact Ev.pure _
  rw [if_neg hs]
  have b5 : H5.get H.n = some ⟨SC s, 1, true⟩ := by rw [k35.2 _ (show H.n < H2.n by have := k2'.1; omega)]; exact b2
  have last : ∃ H', Ev (fun n m => bnd (ldA 4 (ptr H.n 0) H5) fun x44 H60 => bnd (AX n 76 [x44] H60) fun x45 H62 => bnd (up (binB Tryd.prog .add 9 (.string ⟨#[91]⟩) x45) H62) fun x46 H64 =>
              bnd (up (binB Tryd.prog .add 9 x46 (.string ⟨#[93]⟩)) H64) fun x47 H66 => some (x47, H66)) (.string (strOf (91 :: clsN s ++ [93])), H') ∧ Keep (all H) H H' := by
    have c6 := list_cl (E := EX) rfl (hG2.keep k35) s
    refine ⟨H5, ?_, k2.trans (k35.mono (upA k2))⟩
    simp only [ruA, ruB, ruC, ruE, ruD, lenStr, Int.reduceBEq, Int.reduceBNe, ldAG b5 (SC_len _)]
    refine Ev.callC c6 ?_
    simp only [ruA, ruB, ruC, ruE, ruD, lenStr, Int.reduceBEq, Int.reduceBNe, (cls_add s).2, end_add (d := 91 :: clsN s) (by have := clsN_len s; simp; omega)]
    exact Ev.pure _
  by_cases h128 : 128 < L
  · have e2 : ((L : Int) > 128) = True := eq_true (by omega)
    by_cases h256 : L < 256
    · rw [if_pos ⟨h128, h256⟩]
      have e3 : ((L : Int) < 256) = True := eq_true (by omega)
      obtain ⟨H', r1, r2⟩ := neg H5 k35
      refine ⟨H', pre2 _ ?_, r2⟩
      simp only [decide_eq_false hs, ruA, ruB, ruC, ruE, ruD, lenStr, Int.reduceBEq, Int.reduceBNe, e2, e3]
      exact r1
    · rw [if_neg fun h => h256 h.2]
      have e3 : ((L : Int) < 256) = False := eq_false (by omega)
      obtain ⟨H', r1, r2⟩ := last
      refine ⟨H', pre2 _ ?_, r2⟩
      simp only [decide_eq_false hs, ruA, ruB, ruC, ruE, ruD, lenStr, Int.reduceBEq, Int.reduceBNe, e2, e3]
      exact r1
  · rw [if_neg fun h => h128 h.1]
    have e2 : ((L : Int) > 128) = False := eq_false (by omega)
    obtain ⟨H', r1, r2⟩ := last
    refine ⟨H', pre2 _ ?_, r2⟩
    simp only [decide_eq_false hs, ruA, ruB, ruC, ruE, ruD, lenStr, Int.reduceBEq, Int.reduceBNe, e2]
    exact r1
end Go.Eng

set_option linter.unusedVariables false
set_option linter.unusedSimpArgs false
set_option linter.unusedSectionVars false
set_option maxRecDepth 100000
namespace Go.Eng
open Go Go.Proofs

def szN (l : List Nd) : Nat → Nat → Nat
  | 0, _ => 0
  | _ + 1, 0 => 0
  | f + 1, p + 1 =>
    match l[p]? with
    | none => 0
    | some n =>
      if n.kind ≠ 2 ∧ ¬ sameS n.set 0 then 0
      else if n.kind = 1 ∨ n.kind = 2 then (if n.a = 0 ∧ n.b = 0 then 1 else 0)
      else if n.kind = 5 ∨ n.kind = 6 then (if 0 < szN l f p ∧ n.a = (p : Int) - 1 ∧ n.b = 0 then szN l f p + 1 else 0)
      else if n.kind = 3 ∨ n.kind = 4 then
        (if 0 < szN l f p ∧ n.b = (p : Int) - 1 ∧ n.a = (p : Int) - 1 - (szN l f p : Int) ∧ 0 < szN l f (p - szN l f p) then szN l f p + szN l f (p - szN l f p) + 1 else 0)
      else 0
theorem szN_le (l : List Nd) : ∀ (f p : Nat), szN l f p ≤ p
  | 0, p => by simp [szN]
  | f + 1, 0 => by simp [szN]
  | f + 1, p + 1 => by
    have h1 := szN_le l f p
    have h2 := szN_le l f (p - szN l f p)
    rw [szN]
    split
    · omega
    · repeat' split
      all_goals omega
def chkN (l : List Nd) : Int := if 256 < l.length then 5 else if l.length = 0 ∨ szN l l.length l.length ≠ l.length then 2 else 0
theorem NDS_cut {l : List Nd} : ∀ {p : Nat} {n : Nd}, l[p]? = some n → cut (NDS l) (p * 7) 7 = ND n := by
  induction l with
  | nil => intro p n h; simp at h
  | cons x l ih =>
    intro p n h
    cases p with
    | zero =>
      simp only [List.getElem?_cons_zero, Option.some.injEq] at h
      subst h
      rfl
    | succ p =>
      simp only [List.getElem?_cons_succ] at h
      have := ih h
      simp only [cut] at this ⊢
      rw [← this, show (p + 1) * 7 = p * 7 + 7 by omega, ← List.drop_drop]
      simp only [NDS, List.map_cons, List.flatten_cons]
      congr 1
      rw [List.drop_drop, Nat.add_comm, ← List.drop_drop]
      rfl
def zND : List Value := [(.int .i64 0), (.int .u64 0), (.int .u64 0), (.int .u64 0), (.int .u64 0), (.int .i64 0), (.int .i64 0)]
theorem node_at {R : Nat → Prop} {H : Heap} {l : List Nd} {v : Value} (hs : Sl R H 7 v l.length (NDS l)) {p : Nat} {n : Nd} (hn : l[p]? = some n) :
    ∃ a, iAddrS 7 v (.int .i64 (p : Int)) = some a ∧ ldA 7 a H = some (.agg (ND n).toArray, H) ∧ newV zND H = some (ptr H.n 0, H.push ⟨zND, 1, true⟩) ∧
      stV 7 (ptr H.n 0) (.agg (ND n).toArray) (H.push ⟨zND, 1, true⟩) = some (undef, H.push ⟨ND n, 1, true⟩) := by
  obtain ⟨b, o, h1, _, _, h2⟩ := hs.atN (List.getElem?_eq_some_iff.1 hn).1
  rw [NDS_cut hn] at h2
  exact ⟨_, h1, h2, newV_box rfl, stA_push (cs := zND) (ds := ND n) rfl rfl rfl⟩
theorem nd0 {H : Heap} {b : Nat} {n : Nd} (h : H.get b = some ⟨ND n, 1, true⟩) : ldC (ptr b 0) H = some (.int .i64 n.kind, H) := ldG h rfl
theorem nd5 {H : Heap} {b : Nat} {n : Nd} (h : H.get b = some ⟨ND n, 1, true⟩) : ldC (ptr b 5) H = some (.int .i64 n.a, H) := ldG h rfl
theorem nd6 {H : Heap} {b : Nat} {n : Nd} (h : H.get b = some ⟨ND n, 1, true⟩) : ldC (ptr b 6) H = some (.int .i64 n.b, H) := ldG h rfl
theorem nd1 {H : Heap} {b : Nat} {n : Nd} (h : H.get b = some ⟨ND n, 1, true⟩) : ldA 4 (ptr b 1) H = some (.agg (SC n.set).toArray, H) := by
  simp only [Eng.ldA, h]
  rfl
theorem bld_set0 (H : Heap) : bld [.int .u64 0, .int .u64 0, .int .u64 0, .int .u64 0] [] H = some (.agg (SC 0).toArray, H) := rfl
theorem i_eq {a b : Int} : (a == b) = decide (a = b) := rfl
theorem i_ne {a b : Int} : (a != b) = !decide (a = b) := rfl
def okL (l : List Nd) : Prop := l.length ≤ 4611686018427387904
theorem size_ok {l : List Nd} {v : Value} (hl : okL l) : ∀ (f p : Nat) (H : Heap), p ≤ f → p ≤ l.length → Sl (all H) H 7 v l.length (NDS l) →
    ∃ H', ClX 38 [v, .int .i64 ((p : Int) - 1)] H (.int .i64 (szN l f p : Int)) H' ∧ Keep (all H) H H' := by
  intro f
  unfold okL at hl
  induction f with
  | zero =>
    intro p H hp _ hs
    obtain rfl : p = 0 := by omega
    refine ⟨H, Ev.enter (fun n => f38_eq rfl n _ _ _) ?_, Keep.refl _ _⟩
    simp only [f38, ruA, ruB, ruC, ruE, ruD, lenStr, Int.reduceBEq, Int.reduceBNe]
    exact Ev.pure _
  | succ f ih =>
    intro p H hp hpl hs
    cases p with
    | zero =>
      refine ⟨H, Ev.enter (fun n => f38_eq rfl n _ _ _) ?_, Keep.refl _ _⟩
      simp only [f38, ruA, ruB, ruC, ruE, ruD, lenStr, Int.reduceBEq, Int.reduceBNe]
      exact Ev.pure _
    | succ p =>
      obtain ⟨nd, hnd⟩ : ∃ nd, l[p]? = some nd := ⟨l[p], List.getElem?_eq_getElem (by omega)⟩
      obtain ⟨K, s, a, b⟩ := nd
      obtain ⟨ad, q1, q2, q3, q4⟩ := node_at hs hnd
      obtain ⟨H1, hH1⟩ : ∃ H1, H.push ⟨ND ⟨K, s, a, b⟩, 1, true⟩ = H1 := ⟨_, rfl⟩
      rw [hH1] at q4
      have k1 : Keep (all H) H H1 := by rw [← hH1]; exact push_keep
      have n1 : H1.n = H.n + 1 := by rw [← hH1]; rfl
      have g1 : H1.get H.n = some ⟨ND ⟨K, s, a, b⟩, 1, true⟩ := by rw [← hH1]; exact push_self
      have s1 := (hs.keep k1).mono (upA k1)
      obtain ⟨H2, c2, k2⟩ := ih p H1 (by omega) (by omega) s1
      have k12 := k1.trans (k2.mono (upA k1))
      have g2 : H2.get H.n = some ⟨ND ⟨K, s, a, b⟩, 1, true⟩ := by rw [k2.2 _ (show H.n < H1.n by omega)]; exact g1
      have s2 := (s1.keep k2).mono (upA k2)
      have hk := szN_le l f p
      obtain ⟨k, hkk⟩ : ∃ k, szN l f p = k := ⟨_, rfl⟩
      rw [hkk] at c2 hk
      obtain ⟨H3, c3, k3⟩ := ih (p - k) H2 (by omega) (by omega) s2
      have hm := szN_le l f (p - k)
      obtain ⟨mm, hmm⟩ : ∃ mm, szN l f (p - k) = mm := ⟨_, rfl⟩
      rw [hmm] at c3 hm
      have k13 := k12.trans (k3.mono (upA k12))
      have ea : (((p + 1 : Nat) : Int) - 1) = (p : Int) := by omega
      have e0 : ((p : Int) < 0) = False := eq_false (by omega)
      have w1 : IntKind.i64.wrap ((p : Int) - 1) = (p : Int) - 1 := wrap_i64 (by omega) (by omega)
      have z5 := nd5 g1
      have z6 := nd6 g1
      have y5 := nd5 g2
      have y6 := nd6 g2
      have z0 := nd0 g1
      have z1 := nd1 g1
      rw [ea]
      have hdef : szN l (f + 1) (p + 1) = (if K ≠ 2 ∧ ¬ sameS s 0 then 0
        else if K = 1 ∨ K = 2 then (if a = 0 ∧ b = 0 then 1 else 0)
        else if K = 5 ∨ K = 6 then (if 0 < k ∧ a = (p : Int) - 1 ∧ b = 0 then k + 1 else 0)
        else if K = 3 ∨ K = 4 then (if 0 < k ∧ b = (p : Int) - 1 ∧ a = (p : Int) - 1 - (k : Int) ∧ 0 < mm then k + mm + 1 else 0) else 0) := by
        rw [szN, hnd]; simp only [hkk, hmm]
      rw [hdef]
      have pre : ∀ x, (K ≠ 2 → sameS s 0) → Ev (fun n m => bnd (up (binB Tryd.prog .eql 3 (.int .i64 K) (.int .i64 1)) H1) fun x27 H31 => iff x27 (f38_J3 real (AX n) n v (.int .i64 (p : Int)) (ptr H.n 0) (.int .i64 K) x27 H31)
          (bnd (up (binB Tryd.prog .eql 3 (.int .i64 K) (.int .i64 2)) H31) fun x28 H148 => f38_J3 real (AX n) n v (.int .i64 (p : Int)) (ptr H.n 0) (.int .i64 K) x28 H148)) x → Ev (fun n _ => AX n 38 [v, .int .i64 (p : Int)] H) x := fun x hx h => by
        refine Ev.enter (fun n => f38_eq rfl n _ _ _) ?_
        by_cases h2 : K = 2
        · subst h2
          simp only [f38, ruA, ruB, ruD, b_lss, e0, q1, q2, q4, show newV [(.int .i64 0), (.int .u64 0), (.int .u64 0), (.int .u64 0), (.int .u64 0), (.int .i64 0), (.int .i64 0)] H = _ from q3, z0, b_neq, i_ne]
          exact h
        · have hs0 := hx h2
          simp only [f38, ruA, ruB, ruD, b_lss, e0, q1, q2, q4, show newV [(.int .i64 0), (.int .u64 0), (.int .u64 0), (.int .u64 0), (.int .u64 0), (.int .i64 0), (.int .i64 0)] H = _ from q3, z0, z1, b_neq, i_ne, decide_eq_false h2, bld_set0, b_setneq, decide_eq_true hs0]
          exact h
      by_cases hset : K ≠ 2 ∧ ¬ sameS s 0
      · rw [if_pos hset]
        refine ⟨H1, Ev.enter (fun n => f38_eq rfl n _ _ _) ?_, k1⟩
        simp only [f38, ruA, ruB, ruD, b_lss, e0, q1, q2, q4, show newV [(.int .i64 0), (.int .u64 0), (.int .u64 0), (.int .u64 0), (.int .u64 0), (.int .i64 0), (.int .i64 0)] H = _ from q3, z0, z1, b_neq, i_ne, decide_eq_false hset.1, bld_set0, b_setneq, decide_eq_false hset.2]
        exact Ev.pure _
      rw [if_neg hset]
      have hset' : K ≠ 2 → sameS s 0 := fun h => Classical.byContradiction fun h' => hset ⟨h, h'⟩
      by_cases h12 : K = 1 ∨ K = 2
      · rw [if_pos h12]
        refine ⟨H1, pre _ hset' ?_, k1⟩
        have go : ∀ (t : Value), Ev (fun n _ => f38_J3 real (AX n) n v (.int .i64 (p : Int)) (ptr H.n 0) t (.bool true) H1) (.int .i64 ((if a = 0 ∧ b = 0 then 1 else 0 : Nat) : Int), H1) := fun t => by
          by_cases h5 : a = 0
          · by_cases h6 : b = 0
            · rw [if_pos ⟨h5, h6⟩]
              simp only [f38_J3, ruA, ruB, ruD, z5, z6, b_eql, i_eq, decide_eq_true h5, decide_eq_true h6]
              exact Ev.pure _
            · rw [if_neg fun h => h6 h.2]
              simp only [f38_J3, ruA, ruB, ruD, z5, z6, b_eql, i_eq, decide_eq_true h5, decide_eq_false h6]
              exact Ev.pure _
          · rw [if_neg fun h => h5 h.1]
            simp only [f38_J3, ruA, ruB, ruD, z5, z6, b_eql, i_eq, decide_eq_false h5]
            exact Ev.pure _
        rcases h12 with rfl | rfl
        · simp only [ruA, ruB, ruC, ruE, ruD, lenStr, Int.reduceBEq, Int.reduceBNe]; exact go _
        · simp only [ruA, ruB, ruC, ruE, ruD, lenStr, Int.reduceBEq, Int.reduceBNe]; exact go _
      rw [if_neg h12]
      have h1 : K ≠ 1 := fun h => h12 (.inl h)
      have h2 : K ≠ 2 := fun h => h12 (.inr h)
      by_cases h56 : K = 5 ∨ K = 6
      · rw [if_pos h56]
        refine ⟨H2, pre _ hset' ?_, k12⟩
        have go : ∀ (t : Value), Ev (fun n _ => f38_J2 real (AX n) n v (.int .i64 (p : Int)) (ptr H.n 0) t (.bool true) H1) (.int .i64 ((if 0 < k ∧ a = (p : Int) - 1 ∧ b = 0 then k + 1 else 0 : Nat) : Int), H2) := fun t => by
          simp only [f38_J2, ruA, b_sub, w1]
          refine Ev.callC c2 ?_
          have w2 : IntKind.i64.wrap ((k : Int) + 1) = ((k + 1 : Nat) : Int) := idx_up (by omega)
          by_cases h0 : 0 < k
          · have e3 : ((k : Int) > 0) = True := eq_true (by omega)
            by_cases h5 : a = (p : Int) - 1
            · by_cases h6 : b = 0
              · rw [if_pos ⟨h0, h5, h6⟩]
                simp only [ruA, ruB, ruC, ruD, e3, y5, y6, b_eql, i_eq, w1, decide_eq_true h5, decide_eq_true h6, w2]
                exact Ev.pure _
              · rw [if_neg fun h => h6 h.2.2]
                simp only [ruA, ruB, ruC, ruD, e3, y5, y6, b_eql, i_eq, w1, decide_eq_true h5, decide_eq_false h6, w2]
                exact Ev.pure _
            · rw [if_neg fun h => h5 h.2.1]
              simp only [ruA, ruB, ruC, ruD, e3, y5, y6, b_eql, i_eq, w1, decide_eq_false h5, w2]
              exact Ev.pure _
          · have e3 : ((k : Int) > 0) = False := eq_false (by omega)
            rw [if_neg fun h => h0 h.1]
            simp only [ruA, ruB, ruC, ruD, e3]
            exact Ev.pure _
        rcases h56 with rfl | rfl
        · simp only [ruA, ruB, ruC, ruE, ruD, lenStr, Int.reduceBEq, Int.reduceBNe, f38_J3]; exact go _
        · simp only [ruA, ruB, ruC, ruE, ruD, lenStr, Int.reduceBEq, Int.reduceBNe, f38_J3]; exact go _
      rw [if_neg h56]
      have h5 : K ≠ 5 := fun h => h56 (.inl h)
      have h6 : K ≠ 6 := fun h => h56 (.inr h)
      by_cases h34 : K = 3 ∨ K = 4
      · rw [if_pos h34]
        have go : ∃ H', Ev (fun n _ => f38_J1 real (AX n) n v (.int .i64 (p : Int)) (ptr H.n 0) (.bool true) H1) (.int .i64 ((if 0 < k ∧ b = (p : Int) - 1 ∧ a = (p : Int) - 1 - (k : Int) ∧ 0 < mm then k + mm + 1 else 0 : Nat) : Int), H') ∧ Keep (all H) H H' := by
          have w2 : IntKind.i64.wrap ((p : Int) - 1 - (k : Int)) = (p : Int) - 1 - (k : Int) := wrap_i64 (by omega) (by omega)
          have w3 : IntKind.i64.wrap ((k : Int) + (mm : Int)) = ((k + mm : Nat) : Int) := by rw [← Int.natCast_add, wrap_i64 (by omega) (by omega)]
          have w4 : IntKind.i64.wrap (((k + mm : Nat) : Int) + 1) = ((k + mm + 1 : Nat) : Int) := idx_up (by omega)
          have ec : ((p - k : Nat) : Int) - 1 = (p : Int) - 1 - (k : Int) := by omega
          rw [ec] at c3
          by_cases h0 : 0 < k
          · have e3 : ((k : Int) = 0) = False := eq_false (by omega)
            by_cases hb : b = (p : Int) - 1
            · by_cases ha : a = (p : Int) - 1 - (k : Int)
              · by_cases hm0 : 0 < mm
                · rw [if_pos ⟨h0, hb, ha, hm0⟩]
                  refine ⟨H3, ?_, k13⟩
                  simp only [f38_J1, ruA, b_sub, w1]
                  refine Ev.callC c2 ?_
                  have e4 : ((mm : Int) > 0) = True := eq_true (by omega)
                  simp only [ruA, ruB, ruD, e3, y5, y6, b_eql, b_neq, b_sub, i_eq, i_ne, w1, w2, decide_eq_true hb, decide_eq_true ha, Bool.not_true]
                  refine Ev.callC c3 ?_
                  simp only [ruA, ruD, b_gtr, b_add, e4, w3, w4]
                  exact Ev.pure _
                · rw [if_neg fun h => hm0 h.2.2.2]
                  refine ⟨H3, ?_, k13⟩
                  simp only [f38_J1, ruA, b_sub, w1]
                  refine Ev.callC c2 ?_
                  have e4 : ((mm : Int) > 0) = False := eq_false (by omega)
                  simp only [ruA, ruB, ruD, e3, y5, y6, b_eql, b_neq, b_sub, i_eq, i_ne, w1, w2, decide_eq_true hb, decide_eq_true ha, Bool.not_true]
                  refine Ev.callC c3 ?_
                  simp only [ruA, ruD, b_gtr, b_add, e4, w3, w4]
                  exact Ev.pure _
              · rw [if_neg fun h => ha h.2.2.1]
                refine ⟨H2, ?_, k12⟩
                simp only [f38_J1, ruA, b_sub, w1]
                refine Ev.callC c2 ?_
                simp only [ruA, ruB, ruD, e3, y5, y6, b_eql, b_neq, b_sub, i_eq, i_ne, w1, w2, decide_eq_true hb, decide_eq_false ha]
                exact Ev.pure _
            · rw [if_neg fun h => hb h.2.1]
              refine ⟨H2, ?_, k12⟩
              simp only [f38_J1, ruA, b_sub, w1]
              refine Ev.callC c2 ?_
              simp only [ruA, ruB, ruD, e3, y5, y6, b_eql, b_neq, b_sub, i_eq, i_ne, w1, w2, decide_eq_false hb]
              exact Ev.pure _
          · have e3 : ((k : Int) = 0) = True := eq_true (by omega)
            rw [if_neg fun h => h0 h.1]
            refine ⟨H2, ?_, k12⟩
            simp only [f38_J1, ruA, b_sub, w1]
            refine Ev.callC c2 ?_
            simp only [ruA, ruB, ruD, e3, b_eql, i_eq]
            exact Ev.pure _
        obtain ⟨H', r1, r2⟩ := go
        refine ⟨H', pre _ hset' ?_, r2⟩
        rcases h34 with rfl | rfl
        · simp only [ruA, ruB, ruC, ruE, ruD, lenStr, Int.reduceBEq, Int.reduceBNe, f38_J3, f38_J2]; exact r1
        · simp only [ruA, ruB, ruC, ruE, ruD, lenStr, Int.reduceBEq, Int.reduceBNe, f38_J3, f38_J2]; exact r1
      rw [if_neg h34]
      have h3 : K ≠ 3 := fun h => h34 (.inl h)
      have h4 : K ≠ 4 := fun h => h34 (.inr h)
      refine ⟨H1, pre _ hset' ?_, k1⟩
      simp only [f38_J3, f38_J2, f38_J1, ruA, b_eql, i_eq, decide_eq_false h1, decide_eq_false h2, decide_eq_false h3, decide_eq_false h4, decide_eq_false h5, decide_eq_false h6]
      exact Ev.pure _
theorem check_ok {l : List Nd} {v : Value} {H : Heap} (hs : Sl (all H) H 7 v l.length (NDS l)) : ∃ H', ClX 16 [.agg #[v]] H (.int .i64 (chkN l)) H' ∧ Keep (all H) H H' := by
  have hv1 : [v].all oneC = true := by
    rcases hs with ⟨rfl, _⟩ | ⟨_, _, _, _, rfl, _⟩ | ⟨_, _, _, _, _, rfl, _⟩ <;> rfl
  obtain ⟨H1, hH1⟩ : ∃ H1, H.push ⟨[v], 1, true⟩ = H1 := ⟨_, rfl⟩
  have k1 : Keep (all H) H H1 := by rw [← hH1]; exact push_keep
  have g1 : H1.get H.n = some ⟨[v], 1, true⟩ := by rw [← hH1]; exact push_self
  have nv : newV (Value.cells (.agg #[v])).toList H = some (ptr H.n 0, H1) := by rw [← hH1]; exact newA (cs := [v]) hv1
  have z0 : ldC (ptr H.n 0) H1 = some (v, H1) := ldG g1 rfl
  have s1 := (hs.keep k1).mono (upA k1)
  unfold chkN
  by_cases h256 : 256 < l.length
  · rw [if_pos h256]
    have e : ((l.length : Int) > 256) = True := eq_true (by omega)
    refine ⟨H1, Ev.enter (fun n => f16_eq rfl n _ _) ?_, k1⟩
    simp only [f16, ruA, ruB, ruC, ruE, ruD, lenStr, Int.reduceBEq, Int.reduceBNe, nv, z0, hs.lenS, e]
    exact Ev.pure _
  rw [if_neg h256]
  have hl : okL l := by unfold okL; omega
  have hl' : l.length ≤ 4611686018427387904 := hl
  have e : ((l.length : Int) > 256) = False := eq_false (by omega)
  by_cases h0 : l.length = 0
  · rw [if_pos (.inl h0)]
    have e1 : ((l.length : Int) == 0) = true := by rw [h0]; rfl
    refine ⟨H1, Ev.enter (fun n => f16_eq rfl n _ _) ?_, k1⟩
    simp only [f16, ruA, ruB, ruC, ruE, ruD, lenStr, Int.reduceBEq, Int.reduceBNe, nv, z0, hs.lenS, e, e1, Bool.or_true]
    exact Ev.pure _
  have e1 : ((l.length : Int) == 0) = false := by
    have := k_eq' (a := l.length) (k := 0)
    rw [decide_eq_false h0] at this; exact this
  obtain ⟨H2, c2, k2⟩ := size_ok hl l.length l.length H1 (Nat.le_refl _) (Nat.le_refl _) s1
  have z2 : ldC (ptr H.n 0) H2 = some (v, H2) := ldG (by rw [k2.2 _ (show H.n < H1.n by rw [← hH1]; simp [push_n])]; exact g1) rfl
  have w1 : IntKind.i64.wrap ((l.length : Int) - 1) = (l.length : Int) - 1 := wrap_i64 (by omega) (by omega)
  have hb : sameBlk H1 H2 (blkOf (ptr H.n 0)) = true := blk_keep (by rw [← hH1]; simp [push_n]) k2
  have pre : ∀ x, Ev (fun n m => iff (.bool (((szN l l.length l.length : Nat) : Int) != (l.length : Int))) (some (Value.int .i64 2, H2)) (some (.int .i64 0, H2))) x → Ev (fun n _ => AX n 16 [.agg #[v]] H) x := fun x hx => by
    refine Ev.enter (fun n => f16_eq rfl n _ _) ?_
    simp only [f16, ruA, ruB, ruC, ruE, ruD, lenStr, Int.reduceBEq, Int.reduceBNe, nv, z0, hs.lenS, e, e1, Bool.or_true, w1]
    refine Ev.callC c2 ?_
    simp only [ruA, ruB, ruC, ruE, ruD, lenStr, Int.reduceBEq, Int.reduceBNe, hb, Bool.or_true, Bool.and_true, Bool.false_or, z2, hs.lenS]
    exact hx
  refine ⟨H2, pre _ ?_, k1.trans (k2.mono (upA k1))⟩
  by_cases hsz : szN l l.length l.length = l.length
  · rw [if_neg (by rintro (h | h); exact h0 h; exact h hsz), hsz]
    simp only [ruA, ruB, ruC, ruE, ruD, lenStr, Int.reduceBEq, Int.reduceBNe]
    exact Ev.pure _
  · rw [if_pos (.inr hsz), k_eq, decide_eq_false hsz]
    simp only [ruA, ruB, ruC, ruE, ruD, lenStr, Int.reduceBEq, Int.reduceBNe]
    exact Ev.pure _
end Go.Eng

set_option linter.unusedVariables false
set_option linter.unusedSimpArgs false
set_option linter.unusedSectionVars false
set_option maxRecDepth 100000
namespace Go.Eng
open Go Go.Proofs

def Rx.knd : Rx → Int
  | .nil => 1
  | .set _ => 2
  | .seq _ _ => 3
  | .alt _ _ => 4
  | .star _ => 5
  | .plus _ => 6
def brk (ks : List Int) (t : Rx) (x : List Nat) : List Nat := if t.knd ∈ ks then 40 :: (x ++ [41]) else x
def prT : Rx → List Nat
  | .nil => [40, 41]
  | .set s => setN s
  | .seq a b => brk [4] a (prT a) ++ brk [4, 3] b (prT b)
  | .alt a b => prT a ++ 124 :: brk [4] b (prT b)
  | .star a => brk [4, 3] a (prT a) ++ [42]
  | .plus a => brk [4, 3] a (prT a) ++ [43]
theorem brk_len (ks : List Int) (t : Rx) (x : List Nat) : (brk ks t x).length ≤ x.length + 2 := by
  unfold brk; split <;> simp
theorem prT_len : ∀ t : Rx, (prT t).length + 2 ≤ 2320 * t.size
  | .nil => by simp [prT, Rx.size]
  | .set s => by have := setN_len s; simp [prT, Rx.size]; omega
  | .seq a b => by
    have h1 := prT_len a; have h2 := prT_len b
    have h3 := brk_len [4] a (prT a); have h4 := brk_len [4, 3] b (prT b)
    simp only [prT, Rx.size, List.length_append]; omega
  | .alt a b => by
    have h1 := prT_len a; have h2 := prT_len b
    have h4 := brk_len [4] b (prT b)
    simp only [prT, Rx.size, List.length_append, List.length_cons]; omega
  | .star a => by
    have h1 := prT_len a; have h3 := brk_len [4, 3] a (prT a)
    simp only [prT, Rx.size, List.length_append, List.length_cons, List.length_nil]; omega
  | .plus a => by
    have h1 := prT_len a; have h3 := brk_len [4, 3] a (prT a)
    simp only [prT, Rx.size, List.length_append, List.length_cons, List.length_nil]; omega
def At (l : List Nd) (o : Nat) (t : Rx) : Prop := ∀ i, i < t.size → l[o + i]? = (t.flat o)[i]?
def Rx.top : Nat → Rx → Nd
  | _, .nil => ⟨1, 0, 0, 0⟩
  | _, .set s => ⟨2, s, 0, 0⟩
  | o, .seq x y => ⟨3, 0, ((o + x.size - 1 : Nat) : Int), ((o + x.size + y.size - 1 : Nat) : Int)⟩
  | o, .alt x y => ⟨4, 0, ((o + x.size - 1 : Nat) : Int), ((o + x.size + y.size - 1 : Nat) : Int)⟩
  | o, .star x => ⟨5, 0, ((o + x.size - 1 : Nat) : Int), 0⟩
  | o, .plus x => ⟨6, 0, ((o + x.size - 1 : Nat) : Int), 0⟩
theorem getE_end {α : Type} (l : List α) (x : α) : (l ++ [x])[l.length]? = some x := by simp
theorem At.top {l : List Nd} {o : Nat} : ∀ {t : Rx}, At l o t → l[o + t.size - 1]? = some (t.top o)
  | .nil, h => h 0 (by simp [Rx.size])
  | .set s, h => h 0 (by simp [Rx.size])
  | .seq x y, h => by
    have := h (x.size + y.size) (by simp [Rx.size])
    rw [show o + (Rx.seq x y).size - 1 = o + (x.size + y.size) by simp only [Rx.size]; omega, this, Rx.flat]
    have e : x.size + y.size = (x.flat o ++ y.flat (o + x.size)).length := by simp [Rx.flat_len]
    rw [e, getE_end]; rfl
  | .alt x y, h => by
    have := h (x.size + y.size) (by simp [Rx.size])
    rw [show o + (Rx.alt x y).size - 1 = o + (x.size + y.size) by simp only [Rx.size]; omega, this, Rx.flat]
    have e : x.size + y.size = (x.flat o ++ y.flat (o + x.size)).length := by simp [Rx.flat_len]
    rw [e, getE_end]; rfl
  | .star x, h => by
    have := h x.size (by simp [Rx.size])
    rw [show o + (Rx.star x).size - 1 = o + x.size by simp only [Rx.size]; omega, this, Rx.flat]
    have e : x.size = (x.flat o).length := by simp [Rx.flat_len]
    rw [e, getE_end]
    simp only [Rx.flat_len]; rfl
  | .plus x, h => by
    have := h x.size (by simp [Rx.size])
    rw [show o + (Rx.plus x).size - 1 = o + x.size by simp only [Rx.size]; omega, this, Rx.flat]
    have e : x.size = (x.flat o).length := by simp [Rx.flat_len]
    rw [e, getE_end]
    simp only [Rx.flat_len]; rfl
theorem At.of_app {l : List Nd} {o : Nat} {t x : Rx} {B : List Nd} (h : At l o t) (hf : t.flat o = x.flat o ++ B) (hs : x.size ≤ t.size) : At l o x := fun i hi => by
  rw [h i (by omega), hf, List.getElem?_append_left (by rw [Rx.flat_len]; exact hi)]
theorem At.of_mid {l : List Nd} {o : Nat} {t x y : Rx} {B : List Nd} (h : At l o t) (hf : t.flat o = x.flat o ++ y.flat (o + x.size) ++ B) (hs : x.size + y.size ≤ t.size) : At l (o + x.size) y := fun i hi => by
  rw [Nat.add_assoc, h (x.size + i) (by omega), hf, List.append_assoc, List.getElem?_append_right (by rw [Rx.flat_len]; omega), List.getElem?_append_left (by rw [Rx.flat_len, Rx.flat_len]; omega), Rx.flat_len]
  congr 1; omega
theorem At.seq {l : List Nd} {o : Nat} {x y : Rx} (h : At l o (.seq x y)) : At l o x ∧ At l (o + x.size) y :=
  ⟨h.of_app (by rw [Rx.flat, List.append_assoc]) (by simp only [Rx.size]; omega), h.of_mid (by rw [Rx.flat]) (by simp only [Rx.size]; omega)⟩
theorem At.alt {l : List Nd} {o : Nat} {x y : Rx} (h : At l o (.alt x y)) : At l o x ∧ At l (o + x.size) y :=
  ⟨h.of_app (by rw [Rx.flat, List.append_assoc]) (by simp only [Rx.size]; omega), h.of_mid (by rw [Rx.flat]) (by simp only [Rx.size]; omega)⟩
theorem At.star {l : List Nd} {o : Nat} {x : Rx} (h : At l o (.star x)) : At l o x := h.of_app (by rw [Rx.flat]) (by simp only [Rx.size]; omega)
theorem At.plus {l : List Nd} {o : Nat} {x : Rx} (h : At l o (.plus x)) : At l o x := h.of_app (by rw [Rx.flat]) (by simp only [Rx.size]; omega)
theorem At.self (t : Rx) : At (t.flat 0) 0 t := fun i _ => by rw [Nat.zero_add]
theorem push_slI {H : Heap} {l : List Int} : Sl (all (H.push ⟨I l, 1, true⟩)) (H.push ⟨I l, 1, true⟩) 1 (.slice (some ⟨H.n, 0, none⟩) l.length l.length) l.length (I l) :=
  .inr (.inr ⟨H.n, 0, none, l.length, _, rfl, by simp [all, push_n], push_self, by simp [I], Nat.le_refl _, by simp only [cut, List.drop_zero]; rw [List.take_of_length_le (by simp [I])]⟩)
theorem cont_loop {H : Heap} {v : Value} {ks : List Int} {k : Int} (hs : Sl (all H) H 1 v ks.length (I ks)) (hk : ks.length < 1000000) : ∀ (d i : Nat), i + d = ks.length →
    Ev (fun n m => f78_L0 real (AX n) n m v (.int .i64 k) (.int .i64 (ks.length : Int)) (.int .i64 (i : Int)) H) (.int .i64 (if k ∈ ks.drop i then (i + (ks.drop i).idxOf k : Nat) else (-1 : Int)), H) := by
  intro d
  induction d with
  | zero =>
    intro i hi
    obtain rfl : i = ks.length := by omega
    refine Ev.step (fun n m => f78_L0.eq_2 _ _ _ _ _ _ _ _ m) ?_
    have e : ((ks.length : Int) < (ks.length : Int)) = False := by simp
    simp only [ruA, ruB, ruC, ruE, ruD, lenStr, Int.reduceBEq, Int.reduceBNe, e, List.drop_length, List.not_mem_nil, if_false]
    exact Ev.pure _
  | succ d ih =>
    intro i hi
    have hil : i < ks.length := by omega
    obtain ⟨p, p1, p2⟩ := hs.at1 (i := i) (x := .int .i64 ks[i]) (by simp [I, hil])
    have hd : ks.drop i = ks[i] :: ks.drop (i + 1) := List.drop_eq_getElem_cons hil
    refine Ev.step (fun n m => f78_L0.eq_2 _ _ _ _ _ _ _ _ m) ?_
    have e : ((i : Int) < (ks.length : Int)) = True := eq_true (by omega)
    by_cases he : k = ks[i]
    · rw [hd, if_pos (by rw [he]; exact List.mem_cons_self)]
      simp only [ruA, ruB, ruC, ruE, ruD, lenStr, Int.reduceBEq, Int.reduceBNe, e, p1, p2, i_eq, decide_eq_true he]
      rw [he, List.idxOf_cons_self]
      exact Ev.pure _
    · simp only [ruA, ruB, ruC, ruE, ruD, lenStr, Int.reduceBEq, Int.reduceBNe, e, p1, p2, i_eq, decide_eq_false he, idx_up (show i < 9223372036854775807 by omega)]
      have := ih (i + 1) (by omega)
      rw [hd]
      by_cases hm : k ∈ ks.drop (i + 1)
      · rw [if_pos hm] at this
        have hx : (ks[i] :: ks.drop (i + 1)).idxOf k = (ks.drop (i + 1)).idxOf k + 1 := by
          rw [List.idxOf_cons]
          have : (ks[i] == k) = false := by simpa using Ne.symm he
          rw [this]; rfl
        rw [if_pos (List.mem_cons_of_mem _ hm), hx]
        rw [show i + ((ks.drop (i + 1)).idxOf k + 1) = i + 1 + (ks.drop (i + 1)).idxOf k by omega]
        exact this
      · rw [if_neg hm] at this
        rw [if_neg (by rw [List.mem_cons]; rintro (h | h); exact he h; exact hm h)]
        exact this
theorem cont_ok {H : Heap} {v : Value} {ks : List Int} (k : Int) (hs : Sl (all H) H 1 v ks.length (I ks)) (hk : ks.length < 1000000) : ClX 56 [v, .int .i64 k] H (.bool (decide (k ∈ ks))) H := by
  have h1 : ClX 78 [v, .int .i64 k] H (.int .i64 (if k ∈ ks then (ks.idxOf k : Nat) else (-1 : Int))) H := by
    refine Ev.enter (fun n => f78_eq rfl n _ _ _) ?_
    simp only [f78, ruA, ruB, ruC, ruE, ruD, lenStr, Int.reduceBEq, Int.reduceBNe, hs.lenS]
    have := cont_loop (k := k) hs hk ks.length 0 (by omega)
    simp only [List.drop_zero, Nat.zero_add] at this
    exact Ev.loop this
  refine Ev.enter (fun n => f56_eq rfl n _ _ _) ?_
  refine Ev.callC h1 ?_
  by_cases hm : k ∈ ks
  · have e : (((ks.idxOf k : Nat) : Int) ≥ 0) = True := eq_true (by omega)
    simp only [if_pos hm, ruA, ruB, ruC, ruE, ruD, lenStr, Int.reduceBEq, Int.reduceBNe, e, decide_eq_true hm]
    exact Ev.pure _
  · have e : ((-1 : Int) ≥ 0) = False := by simp
    simp only [if_neg hm, ruA, ruB, ruC, ruE, ruD, lenStr, Int.reduceBEq, Int.reduceBNe, e, decide_eq_false hm]
    exact Ev.pure _
end Go.Eng

set_option linter.unusedVariables false
set_option linter.unusedSimpArgs false
set_option linter.unusedSectionVars false
set_option maxRecDepth 100000
namespace Go.Eng
open Go Go.Proofs

theorem bar_add {d : List Nat} (h : d.length < 10000000) : binB Tryd.prog .add 9 (.string (strOf d)) (.string ⟨#[124]⟩) = some (.string (strOf (d ++ [124]))) := s_add (b := [124]) (by simp; omega)
theorem st_add {d : List Nat} (h : d.length < 10000000) : binB Tryd.prog .add 9 (.string (strOf d)) (.string ⟨#[42]⟩) = some (.string (strOf (d ++ [42]))) := s_add (b := [42]) (by simp; omega)
theorem pl_add {d : List Nat} (h : d.length < 10000000) : binB Tryd.prog .add 9 (.string (strOf d)) (.string ⟨#[43]⟩) = some (.string (strOf (d ++ [43]))) := s_add (b := [43]) (by simp; omega)
theorem op_add {d : List Nat} (h : d.length < 10000000) : binB Tryd.prog .add 9 (.string ⟨#[40]⟩) (.string (strOf d)) = some (.string (strOf (40 :: d))) := s_add (a := [40]) (by simp; omega)
theorem cl_add {d : List Nat} (h : d.length < 10000000) : binB Tryd.prog .add 9 (.string (strOf d)) (.string ⟨#[41]⟩) = some (.string (strOf (d ++ [41]))) := s_add (b := [41]) (by simp; omega)
theorem two_add {a b : List Nat} (h : a.length < 10000000) (h' : b.length < 10000000) : binB Tryd.prog .add 9 (.string (strOf a)) (.string (strOf b)) = some (.string (strOf (a ++ b))) := s_add (by omega)
theorem text_end {H : Heap} {q : Nat} {nd : Nd} {t : Rx} {x : List Nat} {vin : Value} {ks : List Int} (hg : H.get q = some ⟨ND nd, 1, true⟩) (hk : nd.kind = t.knd) (hi : Sl (all H) H 1 vin ks.length (I ks)) (hks : ks.length < 1000000) (hx : x.length < 1000000) :
    Ev (fun n m => f36_J1 real (AX n) n vin (ptr q 0) (.string (strOf x)) H) (.string (strOf (brk ks t x)), H) := by
  simp only [f36_J1, ruA, ruB, ruC, ruE, ruD, lenStr, Int.reduceBEq, Int.reduceBNe, nd0 hg, hk]
  refine Ev.callC (cont_ok t.knd hi hks) ?_
  unfold brk
  by_cases hm : t.knd ∈ ks
  · rw [if_pos hm]
    simp only [ruA, ruB, ruC, ruE, ruD, lenStr, Int.reduceBEq, Int.reduceBNe, decide_eq_true hm, op_add (show x.length < 10000000 by omega), cl_add (d := 40 :: x) (by simp; omega)]
    exact Ev.pure _
  · rw [if_neg hm]
    simp only [ruA, ruB, ruC, ruE, ruD, lenStr, Int.reduceBEq, Int.reduceBNe, decide_eq_false hm]
    exact Ev.pure _
theorem brk_len' {ks : List Int} {t : Rx} (h : t.size ≤ 256) : (brk ks t (prT t)).length < 1000000 := by
  have h1 := prT_len t
  have h2 := brk_len ks t (prT t)
  omega
theorem prT_len' {t : Rx} (h : t.size ≤ 256) : (prT t).length < 1000000 := by
  have h1 := prT_len t
  omega
theorem text_ok {l : List Nd} {v : Value} : ∀ (t : Rx) (o : Nat) (ks : List Int) (vin : Value) (H : Heap), t.size ≤ 256 → o + t.size ≤ 1000000 → At l o t → Sl (all H) H 7 v l.length (NDS l) → Sl (all H) H 1 vin ks.length (I ks) → ks.length < 1000000 → G9 H →
    ∃ H', ClX 36 [v, .int .i64 ((o + t.size - 1 : Nat) : Int), vin] H (.string (strOf (brk ks t (prT t)))) H' ∧ Keep (all H) H H' := by
  intro t
  induction t with
  | nil =>
    intro o ks vin H hsz ho hat hs hi hks hG
    obtain ⟨ad, q1, q2, q3, q4⟩ := node_at hs (n := ⟨1, 0, 0, 0⟩) hat.top
    obtain ⟨H1, hH1⟩ : ∃ H1, H.push ⟨ND ⟨1, 0, 0, 0⟩, 1, true⟩ = H1 := ⟨_, rfl⟩
    rw [hH1] at q4
    have k1 : Keep (all H) H H1 := by rw [← hH1]; exact push_keep
    have g1 : H1.get H.n = some ⟨ND ⟨1, 0, 0, 0⟩, 1, true⟩ := by rw [← hH1]; exact push_self
    refine ⟨H1, Ev.enter (fun n => f36_eq rfl n _ _ _ _) ?_, k1⟩
    simp only [f36, ruA, ruB, ruC, ruE, ruD, lenStr, Int.reduceBEq, Int.reduceBNe, q1, q2, show newV [(.int .i64 0), (.int .u64 0), (.int .u64 0), (.int .u64 0), (.int .u64 0), (.int .i64 0), (.int .i64 0)] H = _ from q3, q4, nd0 g1]
    exact text_end (t := .nil) (x := [40, 41]) g1 rfl ((hi.keep k1).mono (upA k1)) hks (by simp)
  | set s =>
    intro o ks vin H hsz ho hat hs hi hks hG
    obtain ⟨ad, q1, q2, q3, q4⟩ := node_at hs (n := ⟨2, s, 0, 0⟩) hat.top
    obtain ⟨H1, hH1⟩ : ∃ H1, H.push ⟨ND ⟨2, s, 0, 0⟩, 1, true⟩ = H1 := ⟨_, rfl⟩
    rw [hH1] at q4
    have k1 : Keep (all H) H H1 := by rw [← hH1]; exact push_keep
    have g1 : H1.get H.n = some ⟨ND ⟨2, s, 0, 0⟩, 1, true⟩ := by rw [← hH1]; exact push_self
    obtain ⟨H2, c2, k2⟩ := setT_ok (hG.keep k1) s
    have k12 := k1.trans (k2.mono (upA k1))
    refine ⟨H2, Ev.enter (fun n => f36_eq rfl n _ _ _ _) ?_, k12⟩
    simp only [f36, ruA, ruB, ruC, ruE, ruD, lenStr, Int.reduceBEq, Int.reduceBNe, q1, q2, show newV [(.int .i64 0), (.int .u64 0), (.int .u64 0), (.int .u64 0), (.int .u64 0), (.int .i64 0), (.int .i64 0)] H = _ from q3, q4, nd0 g1, nd1 g1]
    refine Ev.callC c2 ?_
    exact text_end (t := .set s) (x := setN s) (nd := ⟨2, s, 0, 0⟩) (by rw [k2.2 _ (show H.n < H1.n by rw [← hH1]; simp [push_n])]; exact g1) rfl ((hi.keep k12).mono (upA k12)) hks (by have := setN_len s; omega)
  | seq x y ihx ihy =>
    intro o ks vin H hsz ho hat hs hi hks hG
    simp only [Rx.size] at hsz ho
    have px := x.size_pos
    have py := y.size_pos
    obtain ⟨ad, q1, q2, q3, q4⟩ := node_at hs (n := ⟨3, 0, ((o + x.size - 1 : Nat) : Int), ((o + x.size + y.size - 1 : Nat) : Int)⟩) hat.top
    obtain ⟨nd, hnd⟩ : ∃ nd : Nd, (⟨3, 0, ((o + x.size - 1 : Nat) : Int), ((o + x.size + y.size - 1 : Nat) : Int)⟩ : Nd) = nd := ⟨_, rfl⟩
    rw [hnd] at q2 q4
    have ekind : nd.kind = 3 := by rw [← hnd]
    have eA : nd.a = ((o + x.size - 1 : Nat) : Int) := by rw [← hnd]
    have eB : nd.b = ((o + x.size + y.size - 1 : Nat) : Int) := by rw [← hnd]
    obtain ⟨H1, hH1⟩ : ∃ H1, H.push ⟨ND nd, 1, true⟩ = H1 := ⟨_, rfl⟩
    rw [hH1] at q4
    have k1 : Keep (all H) H H1 := by rw [← hH1]; exact push_keep
    have g1 : H1.get H.n = some ⟨ND nd, 1, true⟩ := by rw [← hH1]; exact push_self
    have hn1 : H.n < H1.n := by rw [← hH1]; simp [push_n]
    obtain ⟨H2, hH2⟩ : ∃ H2, H1.push ⟨I [4], 1, true⟩ = H2 := ⟨_, rfl⟩
    have k2' : Keep (all H1) H1 H2 := by rw [← hH2]; exact push_keep
    have k2 := k1.trans (k2'.mono (upA k1))
    have hn2 : H.n < H2.n := by have := k2'.1; omega
    have l1 : bldS 1 1 [.int .i64 0] [(0, 1, .int .i64 4)] H1 = some (.slice (some ⟨H1.n, 0, none⟩) [(4 : Int)].length [(4 : Int)].length, H2) := by rw [← hH2]; exact lit1
    obtain ⟨H3, c3, k3⟩ := ihx o [4] (.slice (some ⟨H1.n, 0, none⟩) [(4 : Int)].length [(4 : Int)].length) H2 (by omega) (by omega) hat.seq.1 ((hs.keep k2).mono (upA k2)) (by rw [← hH2]; exact push_slI) (by simp) (hG.keep k2)
    have k13 := k2.trans (k3.mono (upA k2))
    have g3 : H3.get H.n = some ⟨ND nd, 1, true⟩ := by rw [k3.2 _ hn2, k2'.2 _ hn1]; exact g1
    have hn3 : H.n < H3.n := by have := k3.1; omega
    obtain ⟨H4, hH4⟩ : ∃ H4, H3.push ⟨I [4, 3], 1, true⟩ = H4 := ⟨_, rfl⟩
    have k4' : Keep (all H3) H3 H4 := by rw [← hH4]; exact push_keep
    have k4 := k13.trans (k4'.mono (upA k13))
    have hn4 : H.n < H4.n := by have := k4'.1; omega
    have l2 : bldS 1 2 [.int .i64 0] [(0, 1, .int .i64 4), (1, 1, .int .i64 3)] H3 = some (.slice (some ⟨H3.n, 0, none⟩) [(4 : Int), 3].length [(4 : Int), 3].length, H4) := by rw [← hH4]; exact lit2
    obtain ⟨H5, c5, k5⟩ := ihy (o + x.size) [4, 3] (.slice (some ⟨H3.n, 0, none⟩) [(4 : Int), 3].length [(4 : Int), 3].length) H4 (by omega) (by omega) hat.seq.2 ((hs.keep k4).mono (upA k4)) (by rw [← hH4]; exact push_slI) (by simp) (hG.keep k4)
    have k15 := k4.trans (k5.mono (upA k4))
    have g5 : H5.get H.n = some ⟨ND nd, 1, true⟩ := by rw [k5.2 _ hn4, k4'.2 _ hn3]; exact g3
    have z5 := nd5 g1
    have z6 := nd6 g3
    rw [eA] at z5
    rw [eB] at z6
    refine ⟨H5, Ev.enter (fun n => f36_eq rfl n _ _ _ _) ?_, k15⟩
    simp only [f36, ruA, ruB, ruC, ruE, ruD, lenStr, Int.reduceBEq, Int.reduceBNe, q1, q2, show newV [(.int .i64 0), (.int .u64 0), (.int .u64 0), (.int .u64 0), (.int .u64 0), (.int .i64 0), (.int .i64 0)] H = _ from q3, q4, nd0 g1, ekind, z5, l1]
    refine Ev.callC c3 ?_
    simp only [ruA, ruB, ruC, ruE, ruD, lenStr, Int.reduceBEq, Int.reduceBNe, blk_keep hn2 k3, Bool.and_true, z6, l2]
    refine Ev.callC c5 ?_
    simp only [ruA, ruB, ruC, ruE, ruD, lenStr, Int.reduceBEq, Int.reduceBNe, two_add (Nat.lt_trans (brk_len' (ks := [4]) (show x.size ≤ 256 by omega)) (by omega)) (Nat.lt_trans (brk_len' (ks := [4, 3]) (show y.size ≤ 256 by omega)) (by omega))]
    exact text_end (t := .seq x y) (x := brk [4] x (prT x) ++ brk [4, 3] y (prT y)) g5 (by rw [ekind]; rfl) ((hi.keep k15).mono (upA k15)) hks (prT_len' (t := .seq x y) (by simp only [Rx.size]; omega))
  | alt x y ihx ihy =>
    intro o ks vin H hsz ho hat hs hi hks hG
    simp only [Rx.size] at hsz ho
    have px := x.size_pos
    have py := y.size_pos
    obtain ⟨ad, q1, q2, q3, q4⟩ := node_at hs (n := ⟨4, 0, ((o + x.size - 1 : Nat) : Int), ((o + x.size + y.size - 1 : Nat) : Int)⟩) hat.top
    obtain ⟨nd, hnd⟩ : ∃ nd : Nd, (⟨4, 0, ((o + x.size - 1 : Nat) : Int), ((o + x.size + y.size - 1 : Nat) : Int)⟩ : Nd) = nd := ⟨_, rfl⟩
    rw [hnd] at q2 q4
    have ekind : nd.kind = 4 := by rw [← hnd]
    have eA : nd.a = ((o + x.size - 1 : Nat) : Int) := by rw [← hnd]
    have eB : nd.b = ((o + x.size + y.size - 1 : Nat) : Int) := by rw [← hnd]
    obtain ⟨H1, hH1⟩ : ∃ H1, H.push ⟨ND nd, 1, true⟩ = H1 := ⟨_, rfl⟩
    rw [hH1] at q4
    have k1 : Keep (all H) H H1 := by rw [← hH1]; exact push_keep
    have g1 : H1.get H.n = some ⟨ND nd, 1, true⟩ := by rw [← hH1]; exact push_self
    have hn1 : H.n < H1.n := by rw [← hH1]; simp [push_n]
    obtain ⟨H3, c3, k3⟩ := ihx o [] (.slice none 0 0) H1 (by omega) (by omega) hat.alt.1 ((hs.keep k1).mono (upA k1)) Sl.nil (by simp) (hG.keep k1)
    have k13 := k1.trans (k3.mono (upA k1))
    have g3 : H3.get H.n = some ⟨ND nd, 1, true⟩ := by rw [k3.2 _ hn1]; exact g1
    have hn3 : H.n < H3.n := by have := k3.1; omega
    obtain ⟨H4, hH4⟩ : ∃ H4, H3.push ⟨I [4], 1, true⟩ = H4 := ⟨_, rfl⟩
    have k4' : Keep (all H3) H3 H4 := by rw [← hH4]; exact push_keep
    have k4 := k13.trans (k4'.mono (upA k13))
    have hn4 : H.n < H4.n := by have := k4'.1; omega
    have l2 : bldS 1 1 [.int .i64 0] [(0, 1, .int .i64 4)] H3 = some (.slice (some ⟨H3.n, 0, none⟩) [(4 : Int)].length [(4 : Int)].length, H4) := by rw [← hH4]; exact lit1
    obtain ⟨H5, c5, k5⟩ := ihy (o + x.size) [4] (.slice (some ⟨H3.n, 0, none⟩) [(4 : Int)].length [(4 : Int)].length) H4 (by omega) (by omega) hat.alt.2 ((hs.keep k4).mono (upA k4)) (by rw [← hH4]; exact push_slI) (by simp) (hG.keep k4)
    have k15 := k4.trans (k5.mono (upA k4))
    have g5 : H5.get H.n = some ⟨ND nd, 1, true⟩ := by rw [k5.2 _ hn4, k4'.2 _ hn3]; exact g3
    have z5 := nd5 g1
    have z6 := nd6 g3
    rw [eA] at z5
    rw [eB] at z6
    have eb0 : brk [] x (prT x) = prT x := by unfold brk; rw [if_neg (by simp)]
    rw [eb0] at c3
    have lx : (prT x).length < 1000000 := prT_len' (by omega)
    refine ⟨H5, Ev.enter (fun n => f36_eq rfl n _ _ _ _) ?_, k15⟩
    simp only [f36, ruA, ruB, ruC, ruE, ruD, lenStr, Int.reduceBEq, Int.reduceBNe, q1, q2, show newV [(.int .i64 0), (.int .u64 0), (.int .u64 0), (.int .u64 0), (.int .u64 0), (.int .i64 0), (.int .i64 0)] H = _ from q3, q4, nd0 g1, ekind, z5]
    refine Ev.callC c3 ?_
    simp only [ruA, ruB, ruC, ruE, ruD, lenStr, Int.reduceBEq, Int.reduceBNe, bar_add (show (prT x).length < 10000000 by omega), blk_keep hn1 k3, Bool.and_true, z6, l2]
    refine Ev.callC c5 ?_
    simp only [ruA, ruB, ruC, ruE, ruD, lenStr, Int.reduceBEq, Int.reduceBNe, two_add (a := prT x ++ [124]) (by simp; omega) (Nat.lt_trans (brk_len' (ks := [4]) (show y.size ≤ 256 by omega)) (by omega))]
    have ee : prT x ++ [124] ++ brk [4] y (prT y) = prT (.alt x y) := by simp [prT]
    rw [ee]
    exact text_end (t := .alt x y) (x := prT (.alt x y)) g5 (by rw [ekind]; rfl) ((hi.keep k15).mono (upA k15)) hks (prT_len' (t := .alt x y) (by simp only [Rx.size]; omega))
  | star x ihx =>
    intro o ks vin H hsz ho hat hs hi hks hG
    simp only [Rx.size] at hsz ho
    have px := x.size_pos
    obtain ⟨ad, q1, q2, q3, q4⟩ := node_at hs (n := ⟨5, 0, ((o + x.size - 1 : Nat) : Int), 0⟩) hat.top
    obtain ⟨nd, hnd⟩ : ∃ nd : Nd, (⟨5, 0, ((o + x.size - 1 : Nat) : Int), 0⟩ : Nd) = nd := ⟨_, rfl⟩
    rw [hnd] at q2 q4
    have ekind : nd.kind = 5 := by rw [← hnd]
    have eA : nd.a = ((o + x.size - 1 : Nat) : Int) := by rw [← hnd]
    obtain ⟨H1, hH1⟩ : ∃ H1, H.push ⟨ND nd, 1, true⟩ = H1 := ⟨_, rfl⟩
    rw [hH1] at q4
    have k1 : Keep (all H) H H1 := by rw [← hH1]; exact push_keep
    have g1 : H1.get H.n = some ⟨ND nd, 1, true⟩ := by rw [← hH1]; exact push_self
    have hn1 : H.n < H1.n := by rw [← hH1]; simp [push_n]
    obtain ⟨H2, hH2⟩ : ∃ H2, H1.push ⟨I [4, 3], 1, true⟩ = H2 := ⟨_, rfl⟩
    have k2' : Keep (all H1) H1 H2 := by rw [← hH2]; exact push_keep
    have k2 := k1.trans (k2'.mono (upA k1))
    have hn2 : H.n < H2.n := by have := k2'.1; omega
    have l1 : bldS 1 2 [.int .i64 0] [(0, 1, .int .i64 4), (1, 1, .int .i64 3)] H1 = some (.slice (some ⟨H1.n, 0, none⟩) [(4 : Int), 3].length [(4 : Int), 3].length, H2) := by rw [← hH2]; exact lit2
    obtain ⟨H3, c3, k3⟩ := ihx o [4, 3] (.slice (some ⟨H1.n, 0, none⟩) [(4 : Int), 3].length [(4 : Int), 3].length) H2 (by omega) (by omega) hat.star ((hs.keep k2).mono (upA k2)) (by rw [← hH2]; exact push_slI) (by simp) (hG.keep k2)
    have k13 := k2.trans (k3.mono (upA k2))
    have g3 : H3.get H.n = some ⟨ND nd, 1, true⟩ := by rw [k3.2 _ hn2, k2'.2 _ hn1]; exact g1
    have z5 := nd5 g1
    rw [eA] at z5
    refine ⟨H3, Ev.enter (fun n => f36_eq rfl n _ _ _ _) ?_, k13⟩
    simp only [f36, ruA, ruB, ruC, ruE, ruD, lenStr, Int.reduceBEq, Int.reduceBNe, q1, q2, show newV [(.int .i64 0), (.int .u64 0), (.int .u64 0), (.int .u64 0), (.int .u64 0), (.int .i64 0), (.int .i64 0)] H = _ from q3, q4, nd0 g1, ekind, z5, l1]
    refine Ev.callC c3 ?_
    simp only [ruA, ruB, ruC, ruE, ruD, lenStr, Int.reduceBEq, Int.reduceBNe, st_add (Nat.lt_trans (brk_len' (ks := [4, 3]) (show x.size ≤ 256 by omega)) (by omega))]
    exact text_end (t := .star x) (x := prT (.star x)) g3 (by rw [ekind]; rfl) ((hi.keep k13).mono (upA k13)) hks (prT_len' (t := .star x) (by simp only [Rx.size]; omega))
  | plus x ihx =>
    intro o ks vin H hsz ho hat hs hi hks hG
    simp only [Rx.size] at hsz ho
    have px := x.size_pos
    obtain ⟨ad, q1, q2, q3, q4⟩ := node_at hs (n := ⟨6, 0, ((o + x.size - 1 : Nat) : Int), 0⟩) hat.top
    obtain ⟨nd, hnd⟩ : ∃ nd : Nd, (⟨6, 0, ((o + x.size - 1 : Nat) : Int), 0⟩ : Nd) = nd := ⟨_, rfl⟩
    rw [hnd] at q2 q4
    have ekind : nd.kind = 6 := by rw [← hnd]
    have eA : nd.a = ((o + x.size - 1 : Nat) : Int) := by rw [← hnd]
    obtain ⟨H1, hH1⟩ : ∃ H1, H.push ⟨ND nd, 1, true⟩ = H1 := ⟨_, rfl⟩
    rw [hH1] at q4
    have k1 : Keep (all H) H H1 := by rw [← hH1]; exact push_keep
    have g1 : H1.get H.n = some ⟨ND nd, 1, true⟩ := by rw [← hH1]; exact push_self
    have hn1 : H.n < H1.n := by rw [← hH1]; simp [push_n]
    obtain ⟨H2, hH2⟩ : ∃ H2, H1.push ⟨I [4, 3], 1, true⟩ = H2 := ⟨_, rfl⟩
    have k2' : Keep (all H1) H1 H2 := by rw [← hH2]; exact push_keep
    have k2 := k1.trans (k2'.mono (upA k1))
    have hn2 : H.n < H2.n := by have := k2'.1; omega
    have l1 : bldS 1 2 [.int .i64 0] [(0, 1, .int .i64 4), (1, 1, .int .i64 3)] H1 = some (.slice (some ⟨H1.n, 0, none⟩) [(4 : Int), 3].length [(4 : Int), 3].length, H2) := by rw [← hH2]; exact lit2
    obtain ⟨H3, c3, k3⟩ := ihx o [4, 3] (.slice (some ⟨H1.n, 0, none⟩) [(4 : Int), 3].length [(4 : Int), 3].length) H2 (by omega) (by omega) hat.plus ((hs.keep k2).mono (upA k2)) (by rw [← hH2]; exact push_slI) (by simp) (hG.keep k2)
    have k13 := k2.trans (k3.mono (upA k2))
    have g3 : H3.get H.n = some ⟨ND nd, 1, true⟩ := by rw [k3.2 _ hn2, k2'.2 _ hn1]; exact g1
    have z5 := nd5 g1
    rw [eA] at z5
    refine ⟨H3, Ev.enter (fun n => f36_eq rfl n _ _ _ _) ?_, k13⟩
    simp only [f36, ruA, ruB, ruC, ruE, ruD, lenStr, Int.reduceBEq, Int.reduceBNe, q1, q2, show newV [(.int .i64 0), (.int .u64 0), (.int .u64 0), (.int .u64 0), (.int .u64 0), (.int .i64 0), (.int .i64 0)] H = _ from q3, q4, nd0 g1, ekind, z5, l1]
    refine Ev.callC c3 ?_
    simp only [ruA, ruB, ruC, ruE, ruD, lenStr, Int.reduceBEq, Int.reduceBNe, pl_add (Nat.lt_trans (brk_len' (ks := [4, 3]) (show x.size ≤ 256 by omega)) (by omega))]
    exact text_end (t := .plus x) (x := prT (.plus x)) g3 (by rw [ekind]; rfl) ((hi.keep k13).mono (upA k13)) hks (prT_len' (t := .plus x) (by simp only [Rx.size]; omega))
theorem print_ok {t : Rx} {v : Value} (ht : t.size ≤ 256) (hc : chkN (t.flat 0) = 0) {H : Heap} (hs : Sl (all H) H 7 v t.size (NDS (t.flat 0))) (hG : G9 H) :
    ∃ H', ClX 12 [.agg #[v]] H (if 1024 < (prT t).length then .tuple #[.string ⟨#[]⟩, .int .i64 5] else .tuple #[.string (strOf (prT t)), .int .i64 0]) H' ∧ Keep (all H) H H' := by
  have hlen : (t.flat 0).length = t.size := Rx.flat_len t 0
  rw [← hlen] at hs
  have hv1 : [v].all oneC = true := by
    rcases hs with ⟨rfl, _⟩ | ⟨_, _, _, _, rfl, _⟩ | ⟨_, _, _, _, _, rfl, _⟩ <;> rfl
  obtain ⟨H1, hH1⟩ : ∃ H1, H.push ⟨[v], 1, true⟩ = H1 := ⟨_, rfl⟩
  have k1 : Keep (all H) H H1 := by rw [← hH1]; exact push_keep
  have g1 : H1.get H.n = some ⟨[v], 1, true⟩ := by rw [← hH1]; exact push_self
  have hn1 : H.n < H1.n := by rw [← hH1]; simp [push_n]
  have nv : newV (Value.cells (.agg #[v])).toList H = some (ptr H.n 0, H1) := by rw [← hH1]; exact newA (cs := [v]) hv1
  have la : ldA 1 (ptr H.n 0) H1 = some (.agg #[v], H1) := ldAG (cs := [v]) g1 rfl
  have okl : okL (t.flat 0) := by unfold okL; rw [hlen]; omega
  obtain ⟨H2, c2, k2⟩ := check_ok ((hs.keep k1).mono (upA k1))
  rw [hc] at c2
  have k12 := k1.trans (k2.mono (upA k1))
  have g2 : H2.get H.n = some ⟨[v], 1, true⟩ := by rw [k2.2 _ hn1]; exact g1
  have z0 : ldC (ptr H.n 0) H2 = some (v, H2) := ldG g2 rfl
  have s2 := (hs.keep k12).mono (upA k12)
  obtain ⟨H3, c3, k3⟩ := text_ok t 0 [] (.slice none 0 0) H2 ht (by omega) (At.self t) s2 Sl.nil (by simp) (hG.keep k12)
  have eb0 : brk [] t (prT t) = prT t := by unfold brk; rw [if_neg (by simp)]
  rw [eb0, Nat.zero_add] at c3
  have pt := t.size_pos
  have w1 : IntKind.i64.wrap ((t.size : Int) - 1) = ((t.size - 1 : Nat) : Int) := by rw [wrap_i64 (by omega) (by omega)]; omega
  have ls : lenS v = some (.int .i64 (t.size : Int)) := by rw [hs.lenS, hlen]
  have pre : ∀ x, Ev (fun n m => iff (.bool (decide (((prT t).length : Int) > 1024))) (some (Value.tuple #[(.string ⟨#[]⟩), (.int .i64 5)], H3)) (some (.tuple #[.string (strOf (prT t)), (.int .i64 0)], H3))) x → Ev (fun n _ => AX n 12 [.agg #[v]] H) x := fun x hx => by
    refine Ev.enter (fun n => f12_eq rfl n _ _) ?_
    simp only [f12, ruA, ruB, ruC, ruE, ruD, lenStr, Int.reduceBEq, Int.reduceBNe, nv, la]
    refine Ev.callC c2 ?_
    simp only [ruA, ruB, ruC, ruE, ruD, lenStr, Int.reduceBEq, Int.reduceBNe, z0, ls, w1]
    refine Ev.callC c3 ?_
    simp only [ruA, ruB, ruC, ruE, ruD, lenStr, Int.reduceBEq, Int.reduceBNe, strOf_size]
    exact hx
  refine ⟨H3, pre _ ?_, k12.trans (k3.mono (upA k12))⟩
  by_cases h : 1024 < (prT t).length
  · have e : (((prT t).length : Int) > 1024) = True := eq_true (by omega)
    simp only [if_pos h, ruA, ruB, ruC, ruE, ruD, lenStr, Int.reduceBEq, Int.reduceBNe, e]
    exact Ev.pure _
  · have e : (((prT t).length : Int) > 1024) = False := eq_false (by omega)
    simp only [if_neg h, ruA, ruB, ruC, ruE, ruD, lenStr, Int.reduceBEq, Int.reduceBNe, e]
    exact Ev.pure _
end Go.Eng
