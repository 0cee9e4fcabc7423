/- The functions, printed. -/
import Derived.Test.YtmjeefecjgfdjaaDoorProg
import Derived.Test.YtmjeefecjgfdjaaDoorEngT
import Derived.KernelRfl
set_option linter.unusedVariables false
set_option maxRecDepth 100000
namespace Go.Eng
open Go Go.Proofs

/-! incunable/varnum.Num -/
noncomputable def f48_c : Code := (Tryd.f48.body).getD .skip

noncomputable def f48_L0 (S : Seam (Value × Heap)) (C : CallF) (n : Nat) : Nat → Value → Value → Heap → Option (Value × Heap)
 | 0, _, _, _ => none
 | m + 1, x0_9, x4_10, H11 =>
   S.b (up (binB Tryd.prog .geq 3 x0_9 (.int .i64 128)) H11) fun x12_12 H13 =>
   S.i x12_12
   (S.b (cvI .u8 x0_9 H13) fun x17_14 H15 =>
    S.b (up (binB Tryd.prog .or 5 x17_14 (.int .u8 128)) H15) fun x18_16 H17 =>
    S.b (bldS 1 1 [(.int .u8 0)] [(0, 1, x18_16)] H17) fun x19_18 H19 =>
    S.b (app 1 1 x4_10 x19_18 H19) fun x20_20 H21 =>
    S.b (up (binB Tryd.prog .shr 3 x0_9 (.int .u64 7)) H21) fun x14_22 H23 =>
    f48_L0 S C n m x14_22 x20_20 H23)
   (S.b (cvI .u8 x0_9 H13) fun x23_24 H25 =>
    S.b (bldS 1 1 [(.int .u8 0)] [(0, 1, x23_24)] H25) fun x24_26 H27 =>
    S.b (app 1 1 x4_10 x24_26 H27) fun x25_28 H29 =>
    some (.tuple #[x25_28, (.int .i64 0)], H29))

theorem f48_L0_eq (S : Seam (Value × Heap)) (C : CallF) (n : Nat) : ∀ (m : Nat) (env : Env) (H : Heap), aloopK (acodeK S Tryd.prog C n 26 (cAt f48_c [1, 1, 1, 0, 0, 0])) m env H (kAt S Tryd.prog C n 26 f48_c [1, 1, 1, 0, 0] (fin Tryd.prog Tryd.f48)) = f48_L0 S C n m (env 0) (env 4) H := by
  intro m env H
  refine aloopK_eq (L := fun m env H => f48_L0 S C n m (env 0) (env 4) H) (fun env H => rfl) (fun m env H => ?_) m env H
  kernel_rfl


noncomputable def f48 (S : Seam (Value × Heap)) (C : CallF) (n : Nat) (x0 : Value) (H : Heap) : Option (Value × Heap) :=
 S.b (up (binB Tryd.prog .lss 3 x0 (.int .i64 0)) H) fun x6_1 H2 =>
 S.b (gd (wd x6_1 false) (some (x0, H2)) H2) fun x8_3 H4 =>
 S.b (gd (wd x6_1 false) (up (binB Tryd.prog .gtr 3 x8_3 (.int .i64 9007199254740991)) H4) H4) fun x9_5 H6 =>
 S.b (pickV x6_1 (.bool true) x9_5 H6) fun x10_7 H8 =>
 S.i x10_7
 (some (.tuple #[(.slice none 0 0), (.int .i64 2)], H8))
 (f48_L0 S C n n x0 (.slice none 0 0) H8)

noncomputable def f48G (S : Seam (Value × Heap)) (C : CallF) (n : Nat) (P0 : Env → Heap → Option (Value × Heap)) (x0 : Value) (H : Heap) : Option (Value × Heap) :=
 S.b (up (binB Tryd.prog .lss 3 x0 (.int .i64 0)) H) fun x6_30 H31 =>
 S.b (gd (wd x6_30 false) (some (x0, H31)) H31) fun x8_32 H33 =>
 S.b (gd (wd x6_30 false) (up (binB Tryd.prog .gtr 3 x8_32 (.int .i64 9007199254740991)) H33) H33) fun x9_34 H35 =>
 S.b (pickV x6_30 (.bool true) x9_34 H35) fun x10_36 H37 =>
 S.i x10_36
 (some (.tuple #[(.slice none 0 0), (.int .i64 2)], H37))
 (P0 (putE 26 (putE 26 (putE 26 (putE 26 (putE 26 (putE 26 (putE 26 (putE 26 (putE 26 (env0 [x0]) (some 2) (.slice none 0 0)) (some 3) (.int .i64 0)) (some 5) x0) (some 6) x6_30) (some 7) x6_30) (some 8) x8_32) (some 9) x9_34) (some 10) x10_36) (some 4) (.slice none 0 0)) H37)

theorem f48_main (S : Seam (Value × Heap)) (C : CallF) (n : Nat) (x0 : Value) (H : Heap) : acodeK S Tryd.prog C n 26 f48_c (env0 [x0]) H (fin Tryd.prog Tryd.f48) = f48 S C n x0 H := by
  have h1 : acodeK S Tryd.prog C n 26 f48_c (env0 [x0]) H (fin Tryd.prog Tryd.f48) = f48G S C n (fun env H => aloopK (acodeK S Tryd.prog C n 26 (cAt f48_c [1, 1, 1, 0, 0, 0])) n env H (kAt S Tryd.prog C n 26 f48_c [1, 1, 1, 0, 0] (fin Tryd.prog Tryd.f48))) x0 H := by kernel_rfl
  have e0 : (fun env H => aloopK (acodeK S Tryd.prog C n 26 (cAt f48_c [1, 1, 1, 0, 0, 0])) n env H (kAt S Tryd.prog C n 26 f48_c [1, 1, 1, 0, 0] (fin Tryd.prog Tryd.f48))) = (fun env H => f48_L0 S C n n (env 0) (env 4) H) := by funext env H; exact f48_L0_eq S C n n env H
  rw [e0] at h1
  exact h1.trans (by kernel_rfl)


theorem f48_eq {gl : Bool} {E : Ext} (hE : E 48 = none) (n : Nat) (x0 : Value) (H : Heap) : acall Tryd.prog gl E (n + 1) 48 [x0] H = f48 real (acall Tryd.prog gl E n) n x0 H :=
  (acall_eq (N := 26) Tryd.func48 (by kernel_rfl) (by kernel_rfl) hE (okgl f48_c (by kernel_rfl)) (by kernel_rfl)).trans (f48_main real _ n x0 H)

/-! incunable/incunableref01.Num -/
noncomputable def f49_c : Code := (Tryd.f49.body).getD .skip

noncomputable def f49_L0 (S : Seam (Value × Heap)) (C : CallF) (n : Nat) : Nat → Value → Value → Heap → Option (Value × Heap)
 | 0, _, _, _ => none
 | m + 1, x0_17, x4_18, H19 =>
   S.b (up (binB Tryd.prog .gtr 3 x0_17 (.int .i64 0)) H19) fun x18_20 H21 =>
   S.i x18_20
   (S.b (up (lenS x4_18) H21) fun x23_22 H23 =>
    S.b (up (binB Tryd.prog .sub 3 x23_22 (.int .i64 1)) H23) fun x24_24 H25 =>
    S.b (up (lenS x4_18) H25) fun x27_26 H27 =>
    S.b (up (binB Tryd.prog .sub 3 x27_26 (.int .i64 1)) H27) fun x28_28 H29 =>
    S.b (up (iAddrS 1 x4_18 x28_28) H29) fun x29_30 H31 =>
    S.b (ldC x29_30 H31) fun x30_32 H33 =>
    S.b (up (binB Tryd.prog .add 5 x30_32 (.int .u8 128)) H33) fun x31_34 H35 =>
    S.b (up (iAddrS 1 x4_18 x24_24) H35) fun x32_36 H37 =>
    S.b (stV 1 x32_36 x31_34 H37) fun _ H38 =>
    S.b (up (binB Tryd.prog .rem 3 x0_17 (.int .i64 128)) H38) fun x35_39 H40 =>
    S.b (cvI .u8 x35_39 H40) fun x36_41 H42 =>
    S.b (bldS 1 1 [(.int .u8 0)] [(0, 1, x36_41)] H42) fun x37_43 H44 =>
    S.b (app 1 1 x4_18 x37_43 H44) fun x38_45 H46 =>
    S.b (up (binB Tryd.prog .quo 3 x0_17 (.int .i64 128)) H46) fun x20_47 H48 =>
    f49_L0 S C n m x20_47 x38_45 H48)
   (some (.tuple #[x4_18, (.int .i64 0)], H21))

theorem f49_L0_eq (S : Seam (Value × Heap)) (C : CallF) (n : Nat) : ∀ (m : Nat) (env : Env) (H : Heap), aloopK (acodeK S Tryd.prog C n 40 (cAt f49_c [1, 1, 1, 0, 1, 0, 0])) m env H (kAt S Tryd.prog C n 40 f49_c [1, 1, 1, 0, 1, 0] (fin Tryd.prog Tryd.f49)) = f49_L0 S C n m (env 0) (env 4) H := by
  intro m env H
  refine aloopK_eq (L := fun m env H => f49_L0 S C n m (env 0) (env 4) H) (fun env H => rfl) (fun m env H => ?_) m env H
  kernel_rfl


noncomputable def f49 (S : Seam (Value × Heap)) (C : CallF) (n : Nat) (x0 : Value) (H : Heap) : Option (Value × Heap) :=
 S.b (up (binB Tryd.prog .lss 3 x0 (.int .i64 0)) H) fun x6_1 H2 =>
 S.b (gd (wd x6_1 false) (some (x0, H2)) H2) fun x8_3 H4 =>
 S.b (gd (wd x6_1 false) (up (binB Tryd.prog .gtr 3 x8_3 (.int .i64 9007199254740991)) H4) H4) fun x9_5 H6 =>
 S.b (pickV x6_1 (.bool true) x9_5 H6) fun x10_7 H8 =>
 S.i x10_7
 (some (.tuple #[(.slice none 0 0), (.int .i64 2)], H8))
 (S.b (up (binB Tryd.prog .rem 3 x0 (.int .i64 128)) H8) fun x12_9 H10 =>
  S.b (cvI .u8 x12_9 H10) fun x13_11 H12 =>
  S.b (bldS 1 1 [(.int .u8 0)] [(0, 1, x13_11)] H12) fun x14_13 H14 =>
  S.b (up (binB Tryd.prog .quo 3 x0 (.int .i64 128)) H14) fun x16_15 H16 =>
  f49_L0 S C n n x16_15 x14_13 H16)

noncomputable def f49G (S : Seam (Value × Heap)) (C : CallF) (n : Nat) (P0 : Env → Heap → Option (Value × Heap)) (x0 : Value) (H : Heap) : Option (Value × Heap) :=
 S.b (up (binB Tryd.prog .lss 3 x0 (.int .i64 0)) H) fun x6_49 H50 =>
 S.b (gd (wd x6_49 false) (some (x0, H50)) H50) fun x8_51 H52 =>
 S.b (gd (wd x6_49 false) (up (binB Tryd.prog .gtr 3 x8_51 (.int .i64 9007199254740991)) H52) H52) fun x9_53 H54 =>
 S.b (pickV x6_49 (.bool true) x9_53 H54) fun x10_55 H56 =>
 S.i x10_55
 (some (.tuple #[(.slice none 0 0), (.int .i64 2)], H56))
 (S.b (up (binB Tryd.prog .rem 3 x0 (.int .i64 128)) H56) fun x12_57 H58 =>
  S.b (cvI .u8 x12_57 H58) fun x13_59 H60 =>
  S.b (bldS 1 1 [(.int .u8 0)] [(0, 1, x13_59)] H60) fun x14_61 H62 =>
  S.b (up (binB Tryd.prog .quo 3 x0 (.int .i64 128)) H62) fun x16_63 H64 =>
  P0 (putE 40 (putE 40 (putE 40 (putE 40 (putE 40 (putE 40 (putE 40 (putE 40 (putE 40 (putE 40 (putE 40 (putE 40 (putE 40 (putE 40 (putE 40 (putE 40 (env0 [x0]) (some 2) (.slice none 0 0)) (some 3) (.int .i64 0)) (some 5) x0) (some 6) x6_49) (some 7) x6_49) (some 8) x8_51) (some 9) x9_53) (some 10) x10_55) (some 11) x0) (some 12) x12_57) (some 13) x13_59) (some 14) x14_61) (some 4) x14_61) (some 15) x0) (some 16) x16_63) (some 0) x16_63) H64)

theorem f49_main (S : Seam (Value × Heap)) (C : CallF) (n : Nat) (x0 : Value) (H : Heap) : acodeK S Tryd.prog C n 40 f49_c (env0 [x0]) H (fin Tryd.prog Tryd.f49) = f49 S C n x0 H := by
  have h1 : acodeK S Tryd.prog C n 40 f49_c (env0 [x0]) H (fin Tryd.prog Tryd.f49) = f49G S C n (fun env H => aloopK (acodeK S Tryd.prog C n 40 (cAt f49_c [1, 1, 1, 0, 1, 0, 0])) n env H (kAt S Tryd.prog C n 40 f49_c [1, 1, 1, 0, 1, 0] (fin Tryd.prog Tryd.f49))) x0 H := by kernel_rfl
  have e0 : (fun env H => aloopK (acodeK S Tryd.prog C n 40 (cAt f49_c [1, 1, 1, 0, 1, 0, 0])) n env H (kAt S Tryd.prog C n 40 f49_c [1, 1, 1, 0, 1, 0] (fin Tryd.prog Tryd.f49))) = (fun env H => f49_L0 S C n n (env 0) (env 4) H) := by funext env H; exact f49_L0_eq S C n n env H
  rw [e0] at h1
  exact h1.trans (by kernel_rfl)


theorem f49_eq {gl : Bool} {E : Ext} (hE : E 49 = none) (n : Nat) (x0 : Value) (H : Heap) : acall Tryd.prog gl E (n + 1) 49 [x0] H = f49 real (acall Tryd.prog gl E n) n x0 H :=
  (acall_eq (N := 40) Tryd.func49 (by kernel_rfl) (by kernel_rfl) hE (okgl f49_c (by kernel_rfl)) (by kernel_rfl)).trans (f49_main real _ n x0 H)

/-! incunable/varnum.take -/
noncomputable def f72_c : Code := (Tryd.f72.body).getD .skip

noncomputable def f72_L0 (S : Seam (Value × Heap)) (C : CallF) (n : Nat) : Nat → Value → Value → Value → Heap → Option (Value × Heap)
 | 0, _, _, _, _ => none
 | m + 1, x0_1, x2_2, x3_3, H4 =>
   S.b (up (binB Tryd.prog .eql 3 x3_3 (.int .i64 8)) H4) fun x8_5 H6 =>
   S.i x8_5
   (some (.tuple #[(.int .i64 0), (.int .i64 0), (.int .i64 4)], H6))
   (S.b (up (lenS x0_1) H6) fun x12_7 H8 =>
    S.b (up (binB Tryd.prog .eql 3 x3_3 x12_7) H8) fun x13_9 H10 =>
    S.i x13_9
    (some (.tuple #[(.int .i64 0), (.int .i64 0), (.int .i64 3)], H10))
    (S.b (up (iAddrS 1 x0_1 x3_3) H10) fun x16_11 H12 =>
     S.b (ldC x16_11 H12) fun x17_13 H14 =>
     S.b (up (binB Tryd.prog .andNot 5 x17_13 (.int .u8 128)) H14) fun x20_15 H16 =>
     S.b (cvI .i64 x20_15 H16) fun x21_17 H18 =>
     S.b (up (binB Tryd.prog .mul 3 (.int .i64 7) x3_3) H18) fun x23_19 H20 =>
     S.b (up (binB Tryd.prog .shl 3 x21_17 x23_19) H20) fun x24_21 H22 =>
     S.b (up (binB Tryd.prog .or 3 x2_2 x24_21) H22) fun x25_23 H24 =>
     S.b (up (binB Tryd.prog .add 3 x3_3 (.int .i64 1)) H24) fun x27_25 H26 =>
     S.b (up (binB Tryd.prog .and 5 x17_13 (.int .u8 128)) H26) fun x29_27 H28 =>
     S.b (up (binB Tryd.prog .eql 5 x29_27 (.int .u8 0)) H28) fun x30_29 H30 =>
     S.i x30_29
     (S.b (up (binB Tryd.prog .eql 5 x17_13 (.int .u8 0)) H30) fun x32_31 H32 =>
      S.b (gd (wd x32_31 true) (some (x27_25, H32)) H32) fun x34_33 H34 =>
      S.b (gd (wd x32_31 true) (up (binB Tryd.prog .gtr 3 x34_33 (.int .i64 1)) H34) H34) fun x35_35 H36 =>
      S.b (pickV x32_31 x35_35 (.bool false) H36) fun x36_37 H38 =>
      S.b (gd (wd x36_37 false) (some (x25_23, H38)) H38) fun x38_39 H40 =>
      S.b (gd (wd x36_37 false) (up (binB Tryd.prog .gtr 3 x38_39 (.int .i64 9007199254740991)) H40) H40) fun x39_41 H42 =>
      S.b (pickV x36_37 (.bool true) x39_41 H42) fun x40_43 H44 =>
      S.i x40_43
      (some (.tuple #[(.int .i64 0), (.int .i64 0), (.int .i64 4)], H44))
      (some (.tuple #[x25_23, x27_25, (.int .i64 0)], H44)))
     (f72_L0 S C n m x0_1 x25_23 x27_25 H30)))

theorem f72_L0_eq (S : Seam (Value × Heap)) (C : CallF) (n : Nat) : ∀ (m : Nat) (env : Env) (H : Heap), aloopK (acodeK S Tryd.prog C n 43 (cAt f72_c [1, 0, 1, 1, 0, 0, 0])) m env H (kAt S Tryd.prog C n 43 f72_c [1, 0, 1, 1, 0, 0] (fin Tryd.prog Tryd.f72)) = f72_L0 S C n m (env 0) (env 2) (env 3) H := by
  intro m env H
  refine aloopK_eq (L := fun m env H => f72_L0 S C n m (env 0) (env 2) (env 3) H) (fun env H => rfl) (fun m env H => ?_) m env H
  kernel_rfl


noncomputable def f72 (S : Seam (Value × Heap)) (C : CallF) (n : Nat) (x0 : Value) (H : Heap) : Option (Value × Heap) :=
 f72_L0 S C n n x0 (.int .i64 0) (.int .i64 0) H

noncomputable def f72G (S : Seam (Value × Heap)) (C : CallF) (n : Nat) (P0 : Env → Heap → Option (Value × Heap)) (x0 : Value) (H : Heap) : Option (Value × Heap) :=
 P0 (putE 43 (putE 43 (putE 43 (putE 43 (env0 [x0]) (some 2) (.int .i64 0)) (some 3) (.int .i64 0)) (some 4) (.int .i64 0)) (some 5) (.int .u8 0)) H

theorem f72_main (S : Seam (Value × Heap)) (C : CallF) (n : Nat) (x0 : Value) (H : Heap) : acodeK S Tryd.prog C n 43 f72_c (env0 [x0]) H (fin Tryd.prog Tryd.f72) = f72 S C n x0 H := by
  have h1 : acodeK S Tryd.prog C n 43 f72_c (env0 [x0]) H (fin Tryd.prog Tryd.f72) = f72G S C n (fun env H => aloopK (acodeK S Tryd.prog C n 43 (cAt f72_c [1, 0, 1, 1, 0, 0, 0])) n env H (kAt S Tryd.prog C n 43 f72_c [1, 0, 1, 1, 0, 0] (fin Tryd.prog Tryd.f72))) x0 H := by kernel_rfl
  have e0 : (fun env H => aloopK (acodeK S Tryd.prog C n 43 (cAt f72_c [1, 0, 1, 1, 0, 0, 0])) n env H (kAt S Tryd.prog C n 43 f72_c [1, 0, 1, 1, 0, 0] (fin Tryd.prog Tryd.f72))) = (fun env H => f72_L0 S C n n (env 0) (env 2) (env 3) H) := by funext env H; exact f72_L0_eq S C n n env H
  rw [e0] at h1
  exact h1.trans (by kernel_rfl)


theorem f72_eq {gl : Bool} {E : Ext} (hE : E 72 = none) (n : Nat) (x0 : Value) (H : Heap) : acall Tryd.prog gl E (n + 1) 72 [x0] H = f72 real (acall Tryd.prog gl E n) n x0 H :=
  (acall_eq (N := 43) Tryd.func72 (by kernel_rfl) (by kernel_rfl) hE (okgl f72_c (by kernel_rfl)) (by kernel_rfl)).trans (f72_main real _ n x0 H)

/-! incunable/varnum.TakeNum -/
noncomputable def f52_c : Code := (Tryd.f52.body).getD .skip

noncomputable def f52 (S : Seam (Value × Heap)) (C : CallF) (n : Nat) (x0 : Value) (H : Heap) : Option (Value × Heap) :=
 S.b (C 72 [x0] H) fun x8_1 H2 =>
 S.b (extr 0 x8_1 H2) fun x9_3 H4 =>
 S.b (extr 1 x8_1 H4) fun x10_5 H6 =>
 S.b (extr 2 x8_1 H6) fun x11_7 H8 =>
 S.b (up (binB Tryd.prog .neq 26 x11_7 (.int .i64 0)) H8) fun x13_9 H10 =>
 S.i x13_9
 (some (.tuple #[(.int .i64 0), (.slice none 0 0), x11_7], H10))
 (S.b (up (slcS 1 x0 (some x10_5) none none) H10) fun x18_11 H12 =>
  S.b (C 73 [x18_11] H12) fun x19_13 H14 =>
  some (.tuple #[x9_3, x19_13, (.int .i64 0)], H14))

theorem f52_main (S : Seam (Value × Heap)) (C : CallF) (n : Nat) (x0 : Value) (H : Heap) : acodeK S Tryd.prog C n 20 f52_c (env0 [x0]) H (fin Tryd.prog Tryd.f52) = f52 S C n x0 H := by
  kernel_rfl


theorem f52_eq {gl : Bool} {E : Ext} (hE : E 52 = none) (n : Nat) (x0 : Value) (H : Heap) : acall Tryd.prog gl E (n + 1) 52 [x0] H = f52 real (acall Tryd.prog gl E n) n x0 H :=
  (acall_eq (N := 20) Tryd.func52 (by kernel_rfl) (by kernel_rfl) hE (okgl f52_c (by kernel_rfl)) (by kernel_rfl)).trans (f52_main real _ n x0 H)

/-! incunable/incunableref01.TakeNum -/
noncomputable def f57_c : Code := (Tryd.f57.body).getD .skip

noncomputable def f57_L0 (S : Seam (Value × Heap)) (C : CallF) (n : Nat) : Nat → Value → Value → Value → Value → Heap → Option (Value × Heap)
 | 0, _, _, _, _, _ => none
 | m + 1, x0_1, x5_2, x6_3, x7_4, H5 =>
   S.b (up (binB Tryd.prog .lss 3 x7_4 (.int .i64 8)) H5) fun x9_6 H7 =>
   S.i x9_6
   (S.b (up (lenS x0_1) H7) fun x14_8 H9 =>
    S.b (up (binB Tryd.prog .geq 3 x7_4 x14_8) H9) fun x15_10 H11 =>
    S.i x15_10
    (some (.tuple #[(.int .i64 0), (.slice none 0 0), (.int .i64 3)], H11))
    (S.b (up (iAddrS 1 x0_1 x7_4) H11) fun x19_12 H13 =>
     S.b (ldC x19_12 H13) fun x20_14 H15 =>
     S.b (up (binB Tryd.prog .rem 5 x20_14 (.int .u8 128)) H15) fun x21_16 H17 =>
     S.b (cvI .i64 x21_16 H17) fun x22_18 H19 =>
     S.b (up (binB Tryd.prog .mul 3 x22_18 x6_3) H19) fun x24_20 H21 =>
     S.b (up (binB Tryd.prog .add 3 x5_2 x24_20) H21) fun x25_22 H23 =>
     S.b (up (binB Tryd.prog .mul 3 x6_3 (.int .i64 128)) H23) fun x27_24 H25 =>
     S.b (up (iAddrS 1 x0_1 x7_4) H25) fun x30_26 H27 =>
     S.b (ldC x30_26 H27) fun x31_28 H29 =>
     S.b (up (binB Tryd.prog .geq 5 x31_28 (.int .u8 128)) H29) fun x32_30 H31 =>
     S.i x32_30
     (S.b (up (binB Tryd.prog .add 3 x7_4 (.int .i64 1)) H31) fun x11_32 H33 =>
      f57_L0 S C n m x0_1 x25_22 x27_24 x11_32 H33)
     (S.b (up (iAddrS 1 x0_1 x7_4) H31) fun x35_34 H35 =>
      S.b (ldC x35_34 H35) fun x36_36 H37 =>
      S.b (up (binB Tryd.prog .eql 5 x36_36 (.int .u8 0)) H37) fun x37_38 H39 =>
      S.b (gd (wd x37_38 true) (some (x7_4, H39)) H39) fun x39_40 H41 =>
      S.b (gd (wd x37_38 true) (up (binB Tryd.prog .gtr 3 x39_40 (.int .i64 0)) H41) H41) fun x40_42 H43 =>
      S.b (pickV x37_38 x40_42 (.bool false) H43) fun x41_44 H45 =>
      S.b (gd (wd x41_44 false) (some (x25_22, H45)) H45) fun x43_46 H47 =>
      S.b (gd (wd x41_44 false) (up (binB Tryd.prog .gtr 3 x43_46 (.int .i64 9007199254740991)) H47) H47) fun x44_48 H49 =>
      S.b (pickV x41_44 (.bool true) x44_48 H49) fun x45_50 H51 =>
      S.i x45_50
      (some (.tuple #[(.int .i64 0), (.slice none 0 0), (.int .i64 4)], H51))
      (S.b (up (binB Tryd.prog .add 3 x7_4 (.int .i64 1)) H51) fun x49_52 H53 =>
       S.b (up (slcS 1 x0_1 (some x49_52) none none) H53) fun x50_54 H55 =>
       S.b (C 10 [x50_54] H55) fun x51_56 H57 =>
       some (.tuple #[x25_22, x51_56, (.int .i64 0)], H57)))))
   (some (.tuple #[(.int .i64 0), (.slice none 0 0), (.int .i64 4)], H7))

theorem f57_L0_eq (S : Seam (Value × Heap)) (C : CallF) (n : Nat) : ∀ (m : Nat) (env : Env) (H : Heap), aloopK (acodeK S Tryd.prog C n 52 (cAt f57_c [1, 1, 0, 1, 0, 0])) m env H (kAt S Tryd.prog C n 52 f57_c [1, 1, 0, 1, 0] (fin Tryd.prog Tryd.f57)) = f57_L0 S C n m (env 0) (env 5) (env 6) (env 7) H := by
  intro m env H
  refine aloopK_eq (L := fun m env H => f57_L0 S C n m (env 0) (env 5) (env 6) (env 7) H) (fun env H => rfl) (fun m env H => ?_) m env H
  kernel_rfl


noncomputable def f57 (S : Seam (Value × Heap)) (C : CallF) (n : Nat) (x0 : Value) (H : Heap) : Option (Value × Heap) :=
 f57_L0 S C n n x0 (.int .i64 0) (.int .i64 1) (.int .i64 0) H

noncomputable def f57G (S : Seam (Value × Heap)) (C : CallF) (n : Nat) (P0 : Env → Heap → Option (Value × Heap)) (x0 : Value) (H : Heap) : Option (Value × Heap) :=
 P0 (putE 52 (putE 52 (putE 52 (putE 52 (putE 52 (putE 52 (env0 [x0]) (some 2) (.int .i64 0)) (some 3) (.slice none 0 0)) (some 4) (.int .i64 0)) (some 5) (.int .i64 0)) (some 6) (.int .i64 1)) (some 7) (.int .i64 0)) H

theorem f57_main (S : Seam (Value × Heap)) (C : CallF) (n : Nat) (x0 : Value) (H : Heap) : acodeK S Tryd.prog C n 52 f57_c (env0 [x0]) H (fin Tryd.prog Tryd.f57) = f57 S C n x0 H := by
  have h1 : acodeK S Tryd.prog C n 52 f57_c (env0 [x0]) H (fin Tryd.prog Tryd.f57) = f57G S C n (fun env H => aloopK (acodeK S Tryd.prog C n 52 (cAt f57_c [1, 1, 0, 1, 0, 0])) n env H (kAt S Tryd.prog C n 52 f57_c [1, 1, 0, 1, 0] (fin Tryd.prog Tryd.f57))) x0 H := by kernel_rfl
  have e0 : (fun env H => aloopK (acodeK S Tryd.prog C n 52 (cAt f57_c [1, 1, 0, 1, 0, 0])) n env H (kAt S Tryd.prog C n 52 f57_c [1, 1, 0, 1, 0] (fin Tryd.prog Tryd.f57))) = (fun env H => f57_L0 S C n n (env 0) (env 5) (env 6) (env 7) H) := by funext env H; exact f57_L0_eq S C n n env H
  rw [e0] at h1
  exact h1.trans (by kernel_rfl)


theorem f57_eq {gl : Bool} {E : Ext} (hE : E 57 = none) (n : Nat) (x0 : Value) (H : Heap) : acall Tryd.prog gl E (n + 1) 57 [x0] H = f57 real (acall Tryd.prog gl E n) n x0 H :=
  (acall_eq (N := 52) Tryd.func57 (by kernel_rfl) (by kernel_rfl) hE (okgl f57_c (by kernel_rfl)) (by kernel_rfl)).trans (f57_main real _ n x0 H)

/-! incunable/varnum.TakeText -/
noncomputable def f56_c : Code := (Tryd.f56.body).getD .skip

noncomputable def f56 (S : Seam (Value × Heap)) (C : CallF) (n : Nat) (x0 : Value) (x1 : Value) (H : Heap) : Option (Value × Heap) :=
 S.b (up (binB Tryd.prog .lss 3 x1 (.int .i64 0)) H) fun x10_1 H2 =>
 S.i x10_1
 (some (.tuple #[(.slice none 0 0), (.slice none 0 0), (.int .i64 2)], H2))
 (S.b (C 72 [x0] H2) fun x13_3 H4 =>
  S.b (extr 0 x13_3 H4) fun x14_5 H6 =>
  S.b (extr 1 x13_3 H6) fun x15_7 H8 =>
  S.b (extr 2 x13_3 H8) fun x16_9 H10 =>
  S.b (up (binB Tryd.prog .neq 26 x16_9 (.int .i64 0)) H10) fun x19_11 H12 =>
  S.i x19_11
  (some (.tuple #[(.slice none 0 0), (.slice none 0 0), x16_9], H12))
  (S.b (up (binB Tryd.prog .gtr 3 x14_5 x1) H12) fun x24_13 H14 =>
   S.i x24_13
   (some (.tuple #[(.slice none 0 0), (.slice none 0 0), (.int .i64 5)], H14))
   (S.b (up (lenS x0) H14) fun x28_15 H16 =>
    S.b (up (binB Tryd.prog .sub 3 x28_15 x15_7) H16) fun x30_17 H18 =>
    S.b (up (binB Tryd.prog .gtr 3 x14_5 x30_17) H18) fun x31_19 H20 =>
    S.i x31_19
    (some (.tuple #[(.slice none 0 0), (.slice none 0 0), (.int .i64 3)], H20))
    (S.b (up (binB Tryd.prog .add 3 x15_7 x14_5) H20) fun x36_21 H22 =>
     S.b (up (slcS 1 x0 (some x15_7) (some x36_21) none) H22) fun x37_23 H24 =>
     S.b (C 73 [x37_23] H24) fun x38_25 H26 =>
     S.c true (S.b (up (binB Tryd.prog .add 3 x15_7 x14_5) H26) fun x42_27 H28 =>
      S.b (up (slcS 1 x0 (some x42_27) none none) H28) fun x43_29 H30 =>
      S.b (C 73 [x43_29] H30) fun x44_31 H32 =>
      S.c true (some (.tuple #[x38_25, x44_31, (.int .i64 0)], H32)))))))

theorem f56_main (S : Seam (Value × Heap)) (C : CallF) (n : Nat) (x0 : Value) (x1 : Value) (H : Heap) : acodeK S Tryd.prog C n 45 f56_c (env0 [x0, x1]) H (fin Tryd.prog Tryd.f56) = f56 S C n x0 x1 H := by
  kernel_rfl


theorem f56_eq {gl : Bool} {E : Ext} (hE : E 56 = none) (n : Nat) (x0 : Value) (x1 : Value) (H : Heap) : acall Tryd.prog gl E (n + 1) 56 [x0, x1] H = f56 real (acall Tryd.prog gl E n) n x0 x1 H :=
  (acall_eq (N := 45) Tryd.func56 (by kernel_rfl) (by kernel_rfl) hE (okgl f56_c (by kernel_rfl)) (by kernel_rfl)).trans (f56_main real _ n x0 x1 H)

/-! incunable/incunableref01.TakeText -/
noncomputable def f58_c : Code := (Tryd.f58.body).getD .skip

noncomputable def f58 (S : Seam (Value × Heap)) (C : CallF) (n : Nat) (x0 : Value) (x1 : Value) (H : Heap) : Option (Value × Heap) :=
 S.b (up (binB Tryd.prog .lss 3 x1 (.int .i64 0)) H) fun x11_1 H2 =>
 S.i x11_1
 (some (.tuple #[(.slice none 0 0), (.slice none 0 0), (.int .i64 2)], H2))
 (S.b (C 57 [x0] H2) fun x14_3 H4 =>
  S.b (extr 0 x14_3 H4) fun x15_5 H6 =>
  S.b (extr 1 x14_3 H6) fun x16_7 H8 =>
  S.b (extr 2 x14_3 H8) fun x17_9 H10 =>
  S.b (up (binB Tryd.prog .neq 26 x17_9 (.int .i64 0)) H10) fun x19_11 H12 =>
  S.i x19_11
  (some (.tuple #[(.slice none 0 0), (.slice none 0 0), x17_9], H12))
  (S.b (up (binB Tryd.prog .gtr 3 x15_5 x1) H12) fun x23_13 H14 =>
   S.i x23_13
   (some (.tuple #[(.slice none 0 0), (.slice none 0 0), (.int .i64 5)], H14))
   (S.b (up (lenS x16_7) H14) fun x26_15 H16 =>
    S.b (up (binB Tryd.prog .gtr 3 x15_5 x26_15) H16) fun x27_17 H18 =>
    S.i x27_17
    (some (.tuple #[(.slice none 0 0), (.slice none 0 0), (.int .i64 3)], H18))
    (S.b (up (slcS 1 x16_7 none (some x15_5) none) H18) fun x30_19 H20 =>
     S.b (C 10 [x30_19] H20) fun x31_21 H22 =>
     S.c true (S.b (up (slcS 1 x16_7 (some x15_5) none none) H22) fun x34_23 H24 =>
      S.b (C 10 [x34_23] H24) fun x35_25 H26 =>
      S.c true (some (.tuple #[x31_21, x35_25, (.int .i64 0)], H26)))))))

theorem f58_main (S : Seam (Value × Heap)) (C : CallF) (n : Nat) (x0 : Value) (x1 : Value) (H : Heap) : acodeK S Tryd.prog C n 36 f58_c (env0 [x0, x1]) H (fin Tryd.prog Tryd.f58) = f58 S C n x0 x1 H := by
  kernel_rfl


theorem f58_eq {gl : Bool} {E : Ext} (hE : E 58 = none) (n : Nat) (x0 : Value) (x1 : Value) (H : Heap) : acall Tryd.prog gl E (n + 1) 58 [x0, x1] H = f58 real (acall Tryd.prog gl E n) n x0 x1 H :=
  (acall_eq (N := 36) Tryd.func58 (by kernel_rfl) (by kernel_rfl) hE (okgl f58_c (by kernel_rfl)) (by kernel_rfl)).trans (f58_main real _ n x0 x1 H)

/-! slices.Clone[[]byte,byte] -/
noncomputable def f73_c : Code := (Tryd.f73.body).getD .skip

noncomputable def f73 (S : Seam (Value × Heap)) (C : CallF) (n : Nat) (x0 : Value) (H : Heap) : Option (Value × Heap) :=
 S.b (up (binB Tryd.prog .eql 22 x0 (.slice none 0 0)) H) fun x4_1 H2 =>
 S.i x4_1
 (some ((.slice none 0 0), H2))
 (S.b (bldS 1 0 [(.int .u8 0)] [] H2) fun x5_3 H4 =>
  S.b (app 1 1 x5_3 x0 H4) fun x7_5 H6 =>
  some (x7_5, H6))

theorem f73_main (S : Seam (Value × Heap)) (C : CallF) (n : Nat) (x0 : Value) (H : Heap) : acodeK S Tryd.prog C n 8 f73_c (env0 [x0]) H (fin Tryd.prog Tryd.f73) = f73 S C n x0 H := by
  kernel_rfl


theorem f73_eq {gl : Bool} {E : Ext} (hE : E 73 = none) (n : Nat) (x0 : Value) (H : Heap) : acall Tryd.prog gl E (n + 1) 73 [x0] H = f73 real (acall Tryd.prog gl E n) n x0 H :=
  (acall_eq (N := 8) Tryd.func73 (by kernel_rfl) (by kernel_rfl) hE (okgl f73_c (by kernel_rfl)) (by kernel_rfl)).trans (f73_main real _ n x0 H)

/-! bytes.Clone -/
noncomputable def f53_c : Code := (Tryd.f53.body).getD .skip

noncomputable def f53 (S : Seam (Value × Heap)) (C : CallF) (n : Nat) (x0 : Value) (H : Heap) : Option (Value × Heap) :=
 S.b (up (binB Tryd.prog .eql 22 x0 (.slice none 0 0)) H) fun x4_1 H2 =>
 S.i x4_1
 (some ((.slice none 0 0), H2))
 (S.b (bldS 1 0 [(.int .u8 0)] [] H2) fun x5_3 H4 =>
  S.b (app 1 1 x5_3 x0 H4) fun x7_5 H6 =>
  some (x7_5, H6))

theorem f53_main (S : Seam (Value × Heap)) (C : CallF) (n : Nat) (x0 : Value) (H : Heap) : acodeK S Tryd.prog C n 8 f53_c (env0 [x0]) H (fin Tryd.prog Tryd.f53) = f53 S C n x0 H := by
  kernel_rfl


theorem f53_eq {gl : Bool} {E : Ext} (hE : E 53 = none) (n : Nat) (x0 : Value) (H : Heap) : acall Tryd.prog gl E (n + 1) 53 [x0] H = f53 real (acall Tryd.prog gl E n) n x0 H :=
  (acall_eq (N := 8) Tryd.func53 (by kernel_rfl) (by kernel_rfl) hE (okgl f53_c (by kernel_rfl)) (by kernel_rfl)).trans (f53_main real _ n x0 H)

/-! incunable/varnum.Text -/
noncomputable def f46_c : Code := (Tryd.f46.body).getD .skip

noncomputable def f46 (S : Seam (Value × Heap)) (C : CallF) (n : Nat) (x0 : Value) (x1 : Value) (H : Heap) : Option (Value × Heap) :=
 S.b (up (binB Tryd.prog .lss 3 x1 (.int .i64 0)) H) fun x10_1 H2 =>
 S.i x10_1
 (some (.tuple #[(.slice none 0 0), (.int .i64 2)], H2))
 (S.b (up (lenS x0) H2) fun x13_3 H4 =>
  S.b (up (binB Tryd.prog .gtr 3 x13_3 x1) H4) fun x15_5 H6 =>
  S.i x15_5
  (some (.tuple #[(.slice none 0 0), (.int .i64 5)], H6))
  (S.b (up (lenS x0) H6) fun x18_7 H8 =>
   S.b (C 48 [x18_7] H8) fun x19_9 H10 =>
   S.b (extr 0 x19_9 H10) fun x20_11 H12 =>
   S.b (extr 1 x19_9 H12) fun x21_13 H14 =>
   S.b (up (binB Tryd.prog .neq 26 x21_13 (.int .i64 0)) H14) fun x23_15 H16 =>
   S.i x23_15
   (some (.tuple #[(.slice none 0 0), x21_13], H16))
   (S.b (app 1 1 x20_11 x0 H16) fun x27_17 H18 =>
    some (.tuple #[x27_17, (.int .i64 0)], H18))))

theorem f46_main (S : Seam (Value × Heap)) (C : CallF) (n : Nat) (x0 : Value) (x1 : Value) (H : Heap) : acodeK S Tryd.prog C n 28 f46_c (env0 [x0, x1]) H (fin Tryd.prog Tryd.f46) = f46 S C n x0 x1 H := by
  kernel_rfl


theorem f46_eq {gl : Bool} {E : Ext} (hE : E 46 = none) (n : Nat) (x0 : Value) (x1 : Value) (H : Heap) : acall Tryd.prog gl E (n + 1) 46 [x0, x1] H = f46 real (acall Tryd.prog gl E n) n x0 x1 H :=
  (acall_eq (N := 28) Tryd.func46 (by kernel_rfl) (by kernel_rfl) hE (okgl f46_c (by kernel_rfl)) (by kernel_rfl)).trans (f46_main real _ n x0 x1 H)

/-! slices.Grow[[]byte,byte] -/
noncomputable def f76_c : Code := (Tryd.f76.body).getD .skip

noncomputable def f76_J1 (S : Seam (Value × Heap)) (C : CallF) (n : Nat) (x0_6 x1_7 : Value) (H8 : Heap) : Option (Value × Heap) :=
 S.b (up (capS x0_6) H8) fun x10_9 H10 =>
 S.b (up (lenS x0_6) H10) fun x12_11 H12 =>
 S.b (up (binB Tryd.prog .sub 3 x10_9 x12_11) H12) fun x13_13 H14 =>
 S.b (up (binB Tryd.prog .sub 3 x1_7 x13_13) H14) fun x14_15 H16 =>
 S.b (up (binB Tryd.prog .gtr 3 x14_15 (.int .i64 0)) H16) fun x16_17 H18 =>
 S.i x16_17
 (S.b (up (capS x0_6) H18) fun x19_19 H20 =>
  S.b (up (slcS 1 x0_6 none (some x19_19) none) H20) fun x20_21 H22 =>
  S.b (appZ 1 1 [(.int .u8 0)] x20_21 x14_15 H22) fun x22_23 H24 =>
  S.b (up (lenS x0_6) H24) fun x24_25 H26 =>
  S.b (up (slcS 1 x22_23 none (some x24_25) none) H26) fun x25_27 H28 =>
  some (x25_27, H28))
 (some (x0_6, H18))

noncomputable def f76 (S : Seam (Value × Heap)) (C : CallF) (n : Nat) (x0 : Value) (x1 : Value) (H : Heap) : Option (Value × Heap) :=
 S.b (up (binB Tryd.prog .lss 3 x1 (.int .i64 0)) H) fun x6_1 H2 =>
 S.i x6_1
 (S.b (none) fun x7_3 H4 =>
  S.b (none) fun _ H5 =>
  f76_J1 S C n x0 x1 H5)
 (f76_J1 S C n x0 x1 H2)

theorem f76_main (S : Seam (Value × Heap)) (C : CallF) (n : Nat) (x0 : Value) (x1 : Value) (H : Heap) : acodeK S Tryd.prog C n 27 f76_c (env0 [x0, x1]) H (fin Tryd.prog Tryd.f76) = f76 S C n x0 x1 H := by
  kernel_rfl


theorem f76_eq {gl : Bool} {E : Ext} (hE : E 76 = none) (n : Nat) (x0 : Value) (x1 : Value) (H : Heap) : acall Tryd.prog gl E (n + 1) 76 [x0, x1] H = f76 real (acall Tryd.prog gl E n) n x0 x1 H :=
  (acall_eq (N := 27) Tryd.func76 (by kernel_rfl) (by kernel_rfl) hE (okgl f76_c (by kernel_rfl)) (by kernel_rfl)).trans (f76_main real _ n x0 x1 H)

/-! slices.Concat[[]byte,byte] -/
noncomputable def f64_c : Code := (Tryd.f64.body).getD .skip

noncomputable def f64_J1 (S : Seam (Value × Heap)) (C : CallF) (n : Nat) (R0 : Value→Value→Value→Value→Value→Heap→Option (Value × Heap)) (x0_30 x3_31 x9_32 x10_33 x11_34 : Value) (H35 : Heap) : Option (Value × Heap) :=
 S.b (up (binB Tryd.prog .add 3 x11_34 (.int .i64 1)) H35) fun x22_36 H37 =>
 R0 x0_30 x3_31 x9_32 x10_33 x22_36 H37

noncomputable def f64_L1 (S : Seam (Value × Heap)) (C : CallF) (n : Nat) : Nat → Value → Value → Value → Value → Heap → Option (Value × Heap)
 | 0, _, _, _, _, _ => none
 | m + 1, x6_42, x25_43, x26_44, x27_45, H46 =>
   S.b (up (binB Tryd.prog .lss 3 x27_45 x26_44) H46) fun x28_47 H48 =>
   S.i x28_47
   (S.b (up (iAddrS 1 x25_43 x27_45) H48) fun x29_49 H50 =>
    S.b (ldC x29_49 H50) fun x30_51 H52 =>
    S.b (app 1 1 x6_42 x30_51 H52) fun x33_53 H54 =>
    S.b (up (binB Tryd.prog .add 3 x27_45 (.int .i64 1)) H54) fun x34_55 H56 =>
    f64_L1 S C n m x33_53 x25_43 x26_44 x34_55 H56)
   (some (x6_42, H48))

theorem f64_L1_eq (S : Seam (Value × Heap)) (C : CallF) (n : Nat) : ∀ (m : Nat) (env : Env) (H : Heap), aloopK (acodeK S Tryd.prog C n 36 (cAt f64_c [1, 1, 1, 1, 0, 1, 0, 0])) m env H (kAt S Tryd.prog C n 36 f64_c [1, 1, 1, 1, 0, 1, 0] (fin Tryd.prog Tryd.f64)) = f64_L1 S C n m (env 6) (env 25) (env 26) (env 27) H := by
  intro m env H
  refine aloopK_eq (L := fun m env H => f64_L1 S C n m (env 6) (env 25) (env 26) (env 27) H) (fun env H => rfl) (fun m env H => ?_) m env H
  kernel_rfl


noncomputable def f64_L0 (S : Seam (Value × Heap)) (C : CallF) (n : Nat) : Nat → Value → Value → Value → Value → Value → Heap → Option (Value × Heap)
 | 0, _, _, _, _, _, _ => none
 | m + 1, x0_3, x3_4, x9_5, x10_6, x11_7, H8 =>
   S.b (up (binB Tryd.prog .lss 3 x11_7 x10_6) H8) fun x12_9 H10 =>
   S.i x12_9
   (S.b (up (iAddrS 1 x9_5 x11_7) H10) fun x13_11 H12 =>
    S.b (ldC x13_11 H12) fun x14_13 H14 =>
    S.b (up (lenS x14_13) H14) fun x17_15 H16 =>
    S.b (up (binB Tryd.prog .add 3 x3_4 x17_15) H16) fun x18_17 H18 =>
    S.b (up (binB Tryd.prog .lss 3 x18_17 (.int .i64 0)) H18) fun x20_19 H20 =>
    S.i x20_19
    (S.b (none) fun x21_21 H22 =>
     S.b (none) fun _ H23 =>
     f64_J1 S C n (f64_L0 S C n m) x0_3 x18_17 x9_5 x10_6 x11_7 H23)
    (f64_J1 S C n (f64_L0 S C n m) x0_3 x18_17 x9_5 x10_6 x11_7 H20))
   (S.b (C 76 [(.slice none 0 0), x3_4] H10) fun x24_38 H39 =>
    S.b (up (lenS x0_3) H39) fun x26_40 H41 =>
    f64_L1 S C n n x24_38 x0_3 x26_40 (.int .i64 0) H41)

noncomputable def f64_L0G (S : Seam (Value × Heap)) (C : CallF) (n : Nat) (R0 : Value→Value→Value→Value→Value→Heap→Option (Value × Heap)) (P1 : Env → Heap → Option (Value × Heap)) (env : Env) (H : Heap) : Option (Value × Heap) :=
 S.b (up (binB Tryd.prog .lss 3 (env 11) (env 10)) H) fun x12_57 H58 =>
 S.i x12_57
 (S.b (up (iAddrS 1 (env 9) (env 11)) H58) fun x13_59 H60 =>
  S.b (ldC x13_59 H60) fun x14_61 H62 =>
  S.b (up (lenS x14_61) H62) fun x17_63 H64 =>
  S.b (up (binB Tryd.prog .add 3 (env 3) x17_63) H64) fun x18_65 H66 =>
  S.b (up (binB Tryd.prog .lss 3 x18_65 (.int .i64 0)) H66) fun x20_67 H68 =>
  S.i x20_67
  (S.b (none) fun x21_69 H70 =>
   S.b (none) fun u71 H72 =>
   S.b (up (binB Tryd.prog .add 3 (env 11) (.int .i64 1)) H72) fun x22_73 H74 =>
   R0 (env 0) x18_65 (env 9) (env 10) x22_73 H74)
  (S.b (up (binB Tryd.prog .add 3 (env 11) (.int .i64 1)) H68) fun x22_75 H76 =>
   R0 (env 0) x18_65 (env 9) (env 10) x22_75 H76))
 (S.b (C 76 [(.slice none 0 0), (env 3)] H58) fun x24_77 H78 =>
  S.b (up (lenS (env 0)) H78) fun x26_79 H80 =>
  P1 (putE 36 (putE 36 (putE 36 (putE 36 (putE 36 (putE 36 (putE 36 env (some 12) x12_57) (some 23) (env 3)) (some 24) x24_77) (some 6) x24_77) (some 25) (env 0)) (some 26) x26_79) (some 27) (.int .i64 0)) H80)

theorem f64_L0_eq (S : Seam (Value × Heap)) (C : CallF) (n : Nat) : ∀ (m : Nat) (env : Env) (H : Heap), aloopK (acodeK S Tryd.prog C n 36 (cAt f64_c [1, 1, 0, 1, 0, 0])) m env H (kAt S Tryd.prog C n 36 f64_c [1, 1, 0, 1, 0] (fin Tryd.prog Tryd.f64)) = f64_L0 S C n m (env 0) (env 3) (env 9) (env 10) (env 11) H := by
  intro m env H
  refine aloopK_eq (L := fun m env H => f64_L0 S C n m (env 0) (env 3) (env 9) (env 10) (env 11) H) (fun env H => rfl) (fun m env H => ?_) m env H
  have h1 : acodeK S Tryd.prog C n 36 (cAt f64_c [1, 1, 0, 1, 0, 0]) env H (onNormal (fun env' H' => f64_L0 S C n m (env' 0) (env' 3) (env' 9) (env' 10) (env' 11) H') (kAt S Tryd.prog C n 36 f64_c [1, 1, 0, 1, 0] (fin Tryd.prog Tryd.f64))) = f64_L0G S C n (f64_L0 S C n m) (fun env H => aloopK (acodeK S Tryd.prog C n 36 (cAt f64_c [1, 1, 1, 1, 0, 1, 0, 0])) n env H (kAt S Tryd.prog C n 36 f64_c [1, 1, 1, 1, 0, 1, 0] (fin Tryd.prog Tryd.f64))) env H := by kernel_rfl
  have e0 : (fun env H => aloopK (acodeK S Tryd.prog C n 36 (cAt f64_c [1, 1, 1, 1, 0, 1, 0, 0])) n env H (kAt S Tryd.prog C n 36 f64_c [1, 1, 1, 1, 0, 1, 0] (fin Tryd.prog Tryd.f64))) = (fun env H => f64_L1 S C n n (env 6) (env 25) (env 26) (env 27) H) := by funext env H; exact f64_L1_eq S C n n env H
  rw [e0] at h1
  exact h1.trans (by kernel_rfl)


noncomputable def f64 (S : Seam (Value × Heap)) (C : CallF) (n : Nat) (x0 : Value) (H : Heap) : Option (Value × Heap) :=
 S.b (up (lenS x0) H) fun x10_1 H2 =>
 f64_L0 S C n n x0 (.int .i64 0) x0 x10_1 (.int .i64 0) H2

noncomputable def f64G (S : Seam (Value × Heap)) (C : CallF) (n : Nat) (P0 : Env → Heap → Option (Value × Heap)) (x0 : Value) (H : Heap) : Option (Value × Heap) :=
 S.b (up (lenS x0) H) fun x10_81 H82 =>
 P0 (putE 36 (putE 36 (putE 36 (putE 36 (putE 36 (env0 [x0]) (some 2) (.slice none 0 0)) (some 3) (.int .i64 0)) (some 9) x0) (some 10) x10_81) (some 11) (.int .i64 0)) H82

theorem f64_main (S : Seam (Value × Heap)) (C : CallF) (n : Nat) (x0 : Value) (H : Heap) : acodeK S Tryd.prog C n 36 f64_c (env0 [x0]) H (fin Tryd.prog Tryd.f64) = f64 S C n x0 H := by
  have h1 : acodeK S Tryd.prog C n 36 f64_c (env0 [x0]) H (fin Tryd.prog Tryd.f64) = f64G S C n (fun env H => aloopK (acodeK S Tryd.prog C n 36 (cAt f64_c [1, 1, 0, 1, 0, 0])) n env H (kAt S Tryd.prog C n 36 f64_c [1, 1, 0, 1, 0] (fin Tryd.prog Tryd.f64))) x0 H := by kernel_rfl
  have e0 : (fun env H => aloopK (acodeK S Tryd.prog C n 36 (cAt f64_c [1, 1, 0, 1, 0, 0])) n env H (kAt S Tryd.prog C n 36 f64_c [1, 1, 0, 1, 0] (fin Tryd.prog Tryd.f64))) = (fun env H => f64_L0 S C n n (env 0) (env 3) (env 9) (env 10) (env 11) H) := by funext env H; exact f64_L0_eq S C n n env H
  rw [e0] at h1
  exact h1.trans (by kernel_rfl)


theorem f64_eq {gl : Bool} {E : Ext} (hE : E 64 = none) (n : Nat) (x0 : Value) (H : Heap) : acall Tryd.prog gl E (n + 1) 64 [x0] H = f64 real (acall Tryd.prog gl E n) n x0 H :=
  (acall_eq (N := 36) Tryd.func64 (by kernel_rfl) (by kernel_rfl) hE (okgl f64_c (by kernel_rfl)) (by kernel_rfl)).trans (f64_main real _ n x0 H)

/-! incunable/varnum.Join -/
noncomputable def f47_c : Code := (Tryd.f47.body).getD .skip

noncomputable def f47 (S : Seam (Value × Heap)) (C : CallF) (n : Nat) (x0 : Value) (H : Heap) : Option (Value × Heap) :=
 S.b (C 64 [x0] H) fun x4_1 H2 =>
 some (x4_1, H2)

theorem f47_main (S : Seam (Value × Heap)) (C : CallF) (n : Nat) (x0 : Value) (H : Heap) : acodeK S Tryd.prog C n 5 f47_c (env0 [x0]) H (fin Tryd.prog Tryd.f47) = f47 S C n x0 H := by
  kernel_rfl


theorem f47_eq {gl : Bool} {E : Ext} (hE : E 47 = none) (n : Nat) (x0 : Value) (H : Heap) : acall Tryd.prog gl E (n + 1) 47 [x0] H = f47 real (acall Tryd.prog gl E n) n x0 H :=
  (acall_eq (N := 5) Tryd.func47 (by kernel_rfl) (by kernel_rfl) hE (okgl f47_c (by kernel_rfl)) (by kernel_rfl)).trans (f47_main real _ n x0 H)

/-! (*strings.asciiSet).contains -/
noncomputable def f77_c : Code := (Tryd.f77.body).getD .skip

noncomputable def f77 (S : Seam (Value × Heap)) (C : CallF) (n : Nat) (x0 : Value) (x1 : Value) (H : Heap) : Option (Value × Heap) :=
 S.b (nilC x0 H) fun x7_1 H2 =>
 S.b (up (iAddrA 256 1 x7_1 x1) H2) fun x8_3 H4 =>
 S.b (ldC x8_3 H4) fun x9_5 H6 =>
 some (x9_5, H6)

theorem f77_main (S : Seam (Value × Heap)) (C : CallF) (n : Nat) (x0 : Value) (x1 : Value) (H : Heap) : acodeK S Tryd.prog C n 10 f77_c (env0 [x0, x1]) H (fin Tryd.prog Tryd.f77) = f77 S C n x0 x1 H := by
  kernel_rfl


theorem f77_eq {gl : Bool} {E : Ext} (hE : E 77 = none) (n : Nat) (x0 : Value) (x1 : Value) (H : Heap) : acall Tryd.prog gl E (n + 1) 77 [x0, x1] H = f77 real (acall Tryd.prog gl E n) n x0 x1 H :=
  (acall_eq (N := 10) Tryd.func77 (by kernel_rfl) (by kernel_rfl) hE (okgl f77_c (by kernel_rfl)) (by kernel_rfl)).trans (f77_main real _ n x0 x1 H)

/-! strings.trimRightByte -/
noncomputable def f66_c : Code := (Tryd.f66.body).getD .skip

noncomputable def f66_L0 (S : Seam (Value × Heap)) (C : CallF) (n : Nat) : Nat → Value → Value → Heap → Option (Value × Heap)
 | 0, _, _, _ => none
 | m + 1, x0_1, x1_2, H3 =>
   S.b (up (lenStr x0_1) H3) fun x6_4 H5 =>
   S.b (up (binB Tryd.prog .gtr 3 x6_4 (.int .i64 0)) H5) fun x7_6 H7 =>
   S.b (gd (wd x7_6 true) (some (x0_1, H7)) H7) fun x9_8 H9 =>
   S.b (gd (wd x7_6 true) (some (x0_1, H9)) H9) fun x10_10 H11 =>
   S.b (gd (wd x7_6 true) (up (lenStr x10_10) H11) H11) fun x11_12 H13 =>
   S.b (gd (wd x7_6 true) (up (binB Tryd.prog .sub 3 x11_12 (.int .i64 1)) H13) H13) fun x12_14 H15 =>
   S.b (gd (wd x7_6 true) (up (idxS x9_8 x12_14) H15) H15) fun x13_16 H17 =>
   S.b (gd (wd x7_6 true) (some (x1_2, H17)) H17) fun x14_18 H19 =>
   S.b (gd (wd x7_6 true) (up (binB Tryd.prog .eql 5 x13_16 x14_18) H19) H19) fun x15_20 H21 =>
   S.b (pickV x7_6 x15_20 (.bool false) H21) fun x16_22 H23 =>
   S.i x16_22
   (S.b (up (lenStr x0_1) H23) fun x19_24 H25 =>
    S.b (up (binB Tryd.prog .sub 3 x19_24 (.int .i64 1)) H25) fun x20_26 H27 =>
    S.b (up (slcStr x0_1 none (some x20_26)) H27) fun x21_28 H29 =>
    f66_L0 S C n m x21_28 x1_2 H29)
   (some (x0_1, H23))

theorem f66_L0_eq (S : Seam (Value × Heap)) (C : CallF) (n : Nat) : ∀ (m : Nat) (env : Env) (H : Heap), aloopK (acodeK S Tryd.prog C n 23 (cAt f66_c [1, 0, 0, 0])) m env H (kAt S Tryd.prog C n 23 f66_c [1, 0, 0] (fin Tryd.prog Tryd.f66)) = f66_L0 S C n m (env 0) (env 1) H := by
  intro m env H
  refine aloopK_eq (L := fun m env H => f66_L0 S C n m (env 0) (env 1) H) (fun env H => rfl) (fun m env H => ?_) m env H
  kernel_rfl


noncomputable def f66 (S : Seam (Value × Heap)) (C : CallF) (n : Nat) (x0 : Value) (x1 : Value) (H : Heap) : Option (Value × Heap) :=
 f66_L0 S C n n x0 x1 H

noncomputable def f66G (S : Seam (Value × Heap)) (C : CallF) (n : Nat) (P0 : Env → Heap → Option (Value × Heap)) (x0 : Value) (x1 : Value) (H : Heap) : Option (Value × Heap) :=
 P0 (putE 23 (env0 [x0, x1]) (some 4) (.string ⟨#[]⟩)) H

theorem f66_main (S : Seam (Value × Heap)) (C : CallF) (n : Nat) (x0 : Value) (x1 : Value) (H : Heap) : acodeK S Tryd.prog C n 23 f66_c (env0 [x0, x1]) H (fin Tryd.prog Tryd.f66) = f66 S C n x0 x1 H := by
  have h1 : acodeK S Tryd.prog C n 23 f66_c (env0 [x0, x1]) H (fin Tryd.prog Tryd.f66) = f66G S C n (fun env H => aloopK (acodeK S Tryd.prog C n 23 (cAt f66_c [1, 0, 0, 0])) n env H (kAt S Tryd.prog C n 23 f66_c [1, 0, 0] (fin Tryd.prog Tryd.f66))) x0 x1 H := by kernel_rfl
  have e0 : (fun env H => aloopK (acodeK S Tryd.prog C n 23 (cAt f66_c [1, 0, 0, 0])) n env H (kAt S Tryd.prog C n 23 f66_c [1, 0, 0] (fin Tryd.prog Tryd.f66))) = (fun env H => f66_L0 S C n n (env 0) (env 1) H) := by funext env H; exact f66_L0_eq S C n n env H
  rw [e0] at h1
  exact h1.trans (by kernel_rfl)


theorem f66_eq {gl : Bool} {E : Ext} (hE : E 66 = none) (n : Nat) (x0 : Value) (x1 : Value) (H : Heap) : acall Tryd.prog gl E (n + 1) 66 [x0, x1] H = f66 real (acall Tryd.prog gl E n) n x0 x1 H :=
  (acall_eq (N := 23) Tryd.func66 (by kernel_rfl) (by kernel_rfl) hE (okgl f66_c (by kernel_rfl)) (by kernel_rfl)).trans (f66_main real _ n x0 x1 H)

/-! strings.trimLeftByte -/
noncomputable def f65_c : Code := (Tryd.f65.body).getD .skip

noncomputable def f65_L0 (S : Seam (Value × Heap)) (C : CallF) (n : Nat) : Nat → Value → Value → Heap → Option (Value × Heap)
 | 0, _, _, _ => none
 | m + 1, x0_1, x1_2, H3 =>
   S.b (up (lenStr x0_1) H3) fun x6_4 H5 =>
   S.b (up (binB Tryd.prog .gtr 3 x6_4 (.int .i64 0)) H5) fun x7_6 H7 =>
   S.b (gd (wd x7_6 true) (some (x0_1, H7)) H7) fun x9_8 H9 =>
   S.b (gd (wd x7_6 true) (up (idxS x9_8 (.int .i64 0)) H9) H9) fun x10_10 H11 =>
   S.b (gd (wd x7_6 true) (some (x1_2, H11)) H11) fun x11_12 H13 =>
   S.b (gd (wd x7_6 true) (up (binB Tryd.prog .eql 5 x10_10 x11_12) H13) H13) fun x12_14 H15 =>
   S.b (pickV x7_6 x12_14 (.bool false) H15) fun x13_16 H17 =>
   S.i x13_16
   (S.b (up (slcStr x0_1 (some (.int .i64 1)) none) H17) fun x15_18 H19 =>
    f65_L0 S C n m x15_18 x1_2 H19)
   (some (x0_1, H17))

theorem f65_L0_eq (S : Seam (Value × Heap)) (C : CallF) (n : Nat) : ∀ (m : Nat) (env : Env) (H : Heap), aloopK (acodeK S Tryd.prog C n 17 (cAt f65_c [1, 0, 0, 0])) m env H (kAt S Tryd.prog C n 17 f65_c [1, 0, 0] (fin Tryd.prog Tryd.f65)) = f65_L0 S C n m (env 0) (env 1) H := by
  intro m env H
  refine aloopK_eq (L := fun m env H => f65_L0 S C n m (env 0) (env 1) H) (fun env H => rfl) (fun m env H => ?_) m env H
  kernel_rfl


noncomputable def f65 (S : Seam (Value × Heap)) (C : CallF) (n : Nat) (x0 : Value) (x1 : Value) (H : Heap) : Option (Value × Heap) :=
 f65_L0 S C n n x0 x1 H

noncomputable def f65G (S : Seam (Value × Heap)) (C : CallF) (n : Nat) (P0 : Env → Heap → Option (Value × Heap)) (x0 : Value) (x1 : Value) (H : Heap) : Option (Value × Heap) :=
 P0 (putE 17 (env0 [x0, x1]) (some 4) (.string ⟨#[]⟩)) H

theorem f65_main (S : Seam (Value × Heap)) (C : CallF) (n : Nat) (x0 : Value) (x1 : Value) (H : Heap) : acodeK S Tryd.prog C n 17 f65_c (env0 [x0, x1]) H (fin Tryd.prog Tryd.f65) = f65 S C n x0 x1 H := by
  have h1 : acodeK S Tryd.prog C n 17 f65_c (env0 [x0, x1]) H (fin Tryd.prog Tryd.f65) = f65G S C n (fun env H => aloopK (acodeK S Tryd.prog C n 17 (cAt f65_c [1, 0, 0, 0])) n env H (kAt S Tryd.prog C n 17 f65_c [1, 0, 0] (fin Tryd.prog Tryd.f65))) x0 x1 H := by kernel_rfl
  have e0 : (fun env H => aloopK (acodeK S Tryd.prog C n 17 (cAt f65_c [1, 0, 0, 0])) n env H (kAt S Tryd.prog C n 17 f65_c [1, 0, 0] (fin Tryd.prog Tryd.f65))) = (fun env H => f65_L0 S C n n (env 0) (env 1) H) := by funext env H; exact f65_L0_eq S C n n env H
  rw [e0] at h1
  exact h1.trans (by kernel_rfl)


theorem f65_eq {gl : Bool} {E : Ext} (hE : E 65 = none) (n : Nat) (x0 : Value) (x1 : Value) (H : Heap) : acall Tryd.prog gl E (n + 1) 65 [x0, x1] H = f65 real (acall Tryd.prog gl E n) n x0 x1 H :=
  (acall_eq (N := 17) Tryd.func65 (by kernel_rfl) (by kernel_rfl) hE (okgl f65_c (by kernel_rfl)) (by kernel_rfl)).trans (f65_main real _ n x0 x1 H)

/-! strings.trimRightASCII -/
noncomputable def f69_c : Code := (Tryd.f69.body).getD .skip

noncomputable def f69_L0 (S : Seam (Value × Heap)) (C : CallF) (n : Nat) : Nat → Value → Value → Heap → Option (Value × Heap)
 | 0, _, _, _ => none
 | m + 1, x0_1, x1_2, H3 =>
   S.b (up (lenStr x0_1) H3) fun x6_4 H5 =>
   S.b (up (binB Tryd.prog .gtr 3 x6_4 (.int .i64 0)) H5) fun x7_6 H7 =>
   S.i x7_6
   (S.b (up (lenStr x0_1) H7) fun x11_8 H9 =>
    S.b (up (binB Tryd.prog .sub 3 x11_8 (.int .i64 1)) H9) fun x12_10 H11 =>
    S.b (up (idxS x0_1 x12_10) H11) fun x13_12 H13 =>
    S.b (C 77 [x1_2, x13_12] H13) fun x14_14 H15 =>
    S.b (up (unB .not x14_14) H15) fun x15_16 H17 =>
    S.i x15_16
    (some (x0_1, H17))
    (S.b (up (lenStr x0_1) H17) fun x18_22 H23 =>
     S.b (up (binB Tryd.prog .sub 3 x18_22 (.int .i64 1)) H23) fun x19_24 H25 =>
     S.b (up (slcStr x0_1 none (some x19_24)) H25) fun x20_26 H27 =>
     f69_L0 S C n m x20_26 x1_2 H27))
   (some (x0_1, H7))

theorem f69_L0_eq (S : Seam (Value × Heap)) (C : CallF) (n : Nat) : ∀ (m : Nat) (env : Env) (H : Heap), aloopK (acodeK S Tryd.prog C n 22 (cAt f69_c [1, 0, 0, 0])) m env H (kAt S Tryd.prog C n 22 f69_c [1, 0, 0] (fin Tryd.prog Tryd.f69)) = f69_L0 S C n m (env 0) (env 1) H := by
  intro m env H
  refine aloopK_eq (L := fun m env H => f69_L0 S C n m (env 0) (env 1) H) (fun env H => rfl) (fun m env H => ?_) m env H
  kernel_rfl


noncomputable def f69 (S : Seam (Value × Heap)) (C : CallF) (n : Nat) (x0 : Value) (x1 : Value) (H : Heap) : Option (Value × Heap) :=
 f69_L0 S C n n x0 x1 H

noncomputable def f69G (S : Seam (Value × Heap)) (C : CallF) (n : Nat) (P0 : Env → Heap → Option (Value × Heap)) (x0 : Value) (x1 : Value) (H : Heap) : Option (Value × Heap) :=
 P0 (putE 22 (env0 [x0, x1]) (some 4) (.string ⟨#[]⟩)) H

theorem f69_main (S : Seam (Value × Heap)) (C : CallF) (n : Nat) (x0 : Value) (x1 : Value) (H : Heap) : acodeK S Tryd.prog C n 22 f69_c (env0 [x0, x1]) H (fin Tryd.prog Tryd.f69) = f69 S C n x0 x1 H := by
  have h1 : acodeK S Tryd.prog C n 22 f69_c (env0 [x0, x1]) H (fin Tryd.prog Tryd.f69) = f69G S C n (fun env H => aloopK (acodeK S Tryd.prog C n 22 (cAt f69_c [1, 0, 0, 0])) n env H (kAt S Tryd.prog C n 22 f69_c [1, 0, 0] (fin Tryd.prog Tryd.f69))) x0 x1 H := by kernel_rfl
  have e0 : (fun env H => aloopK (acodeK S Tryd.prog C n 22 (cAt f69_c [1, 0, 0, 0])) n env H (kAt S Tryd.prog C n 22 f69_c [1, 0, 0] (fin Tryd.prog Tryd.f69))) = (fun env H => f69_L0 S C n n (env 0) (env 1) H) := by funext env H; exact f69_L0_eq S C n n env H
  rw [e0] at h1
  exact h1.trans (by kernel_rfl)


theorem f69_eq {gl : Bool} {E : Ext} (hE : E 69 = none) (n : Nat) (x0 : Value) (x1 : Value) (H : Heap) : acall Tryd.prog gl E (n + 1) 69 [x0, x1] H = f69 real (acall Tryd.prog gl E n) n x0 x1 H :=
  (acall_eq (N := 22) Tryd.func69 (by kernel_rfl) (by kernel_rfl) hE (okgl f69_c (by kernel_rfl)) (by kernel_rfl)).trans (f69_main real _ n x0 x1 H)

/-! strings.trimLeftASCII -/
noncomputable def f68_c : Code := (Tryd.f68.body).getD .skip

noncomputable def f68_L0 (S : Seam (Value × Heap)) (C : CallF) (n : Nat) : Nat → Value → Value → Heap → Option (Value × Heap)
 | 0, _, _, _ => none
 | m + 1, x0_1, x1_2, H3 =>
   S.b (up (lenStr x0_1) H3) fun x6_4 H5 =>
   S.b (up (binB Tryd.prog .gtr 3 x6_4 (.int .i64 0)) H5) fun x7_6 H7 =>
   S.i x7_6
   (S.b (up (idxS x0_1 (.int .i64 0)) H7) fun x10_8 H9 =>
    S.b (C 77 [x1_2, x10_8] H9) fun x11_10 H11 =>
    S.b (up (unB .not x11_10) H11) fun x12_12 H13 =>
    S.i x12_12
    (some (x0_1, H13))
    (S.b (up (slcStr x0_1 (some (.int .i64 1)) none) H13) fun x14_18 H19 =>
     f68_L0 S C n m x14_18 x1_2 H19))
   (some (x0_1, H7))

theorem f68_L0_eq (S : Seam (Value × Heap)) (C : CallF) (n : Nat) : ∀ (m : Nat) (env : Env) (H : Heap), aloopK (acodeK S Tryd.prog C n 16 (cAt f68_c [1, 0, 0, 0])) m env H (kAt S Tryd.prog C n 16 f68_c [1, 0, 0] (fin Tryd.prog Tryd.f68)) = f68_L0 S C n m (env 0) (env 1) H := by
  intro m env H
  refine aloopK_eq (L := fun m env H => f68_L0 S C n m (env 0) (env 1) H) (fun env H => rfl) (fun m env H => ?_) m env H
  kernel_rfl


noncomputable def f68 (S : Seam (Value × Heap)) (C : CallF) (n : Nat) (x0 : Value) (x1 : Value) (H : Heap) : Option (Value × Heap) :=
 f68_L0 S C n n x0 x1 H

noncomputable def f68G (S : Seam (Value × Heap)) (C : CallF) (n : Nat) (P0 : Env → Heap → Option (Value × Heap)) (x0 : Value) (x1 : Value) (H : Heap) : Option (Value × Heap) :=
 P0 (putE 16 (env0 [x0, x1]) (some 4) (.string ⟨#[]⟩)) H

theorem f68_main (S : Seam (Value × Heap)) (C : CallF) (n : Nat) (x0 : Value) (x1 : Value) (H : Heap) : acodeK S Tryd.prog C n 16 f68_c (env0 [x0, x1]) H (fin Tryd.prog Tryd.f68) = f68 S C n x0 x1 H := by
  have h1 : acodeK S Tryd.prog C n 16 f68_c (env0 [x0, x1]) H (fin Tryd.prog Tryd.f68) = f68G S C n (fun env H => aloopK (acodeK S Tryd.prog C n 16 (cAt f68_c [1, 0, 0, 0])) n env H (kAt S Tryd.prog C n 16 f68_c [1, 0, 0] (fin Tryd.prog Tryd.f68))) x0 x1 H := by kernel_rfl
  have e0 : (fun env H => aloopK (acodeK S Tryd.prog C n 16 (cAt f68_c [1, 0, 0, 0])) n env H (kAt S Tryd.prog C n 16 f68_c [1, 0, 0] (fin Tryd.prog Tryd.f68))) = (fun env H => f68_L0 S C n n (env 0) (env 1) H) := by funext env H; exact f68_L0_eq S C n n env H
  rw [e0] at h1
  exact h1.trans (by kernel_rfl)


theorem f68_eq {gl : Bool} {E : Ext} (hE : E 68 = none) (n : Nat) (x0 : Value) (x1 : Value) (H : Heap) : acall Tryd.prog gl E (n + 1) 68 [x0, x1] H = f68 real (acall Tryd.prog gl E n) n x0 x1 H :=
  (acall_eq (N := 16) Tryd.func68 (by kernel_rfl) (by kernel_rfl) hE (okgl f68_c (by kernel_rfl)) (by kernel_rfl)).trans (f68_main real _ n x0 x1 H)

/-! strings.makeASCIISet -/
noncomputable def f67_c : Code := (Tryd.f67.body).getD .skip

noncomputable def f67_L0 (S : Seam (Value × Heap)) (C : CallF) (n : Nat) : Nat → Value → Value → Value → Heap → Option (Value × Heap)
 | 0, _, _, _, _ => none
 | m + 1, x0_3, x2_4, x4_5, H6 =>
   S.b (up (lenStr x0_3) H6) fun x8_7 H8 =>
   S.b (up (binB Tryd.prog .lss 3 x4_5 x8_7) H8) fun x9_9 H10 =>
   S.i x9_9
   (S.b (up (idxS x0_3 x4_5) H10) fun x14_11 H12 =>
    S.b (up (binB Tryd.prog .geq 5 x14_11 (.int .u8 128)) H12) fun x16_13 H14 =>
    S.i x16_13
    (S.b (ldA 256 x2_4 H14) fun x17_15 H16 =>
     S.b (stV 256 x2_4 x17_15 H16) fun _ H17 =>
     (resM [(ldA 256 x2_4 H17).map (·.1), some (.bool false)]).map fun l => (one l, H17))
    (S.b (up (iAddrA 256 1 x2_4 x14_11) H14) fun x19_18 H19 =>
     S.b (stV 1 x19_18 (.bool true) H19) fun _ H20 =>
     S.b (up (binB Tryd.prog .add 3 x4_5 (.int .i64 1)) H20) fun x11_21 H22 =>
     f67_L0 S C n m x0_3 x2_4 x11_21 H22))
   (S.b (ldA 256 x2_4 H10) fun x20_23 H24 =>
    S.b (stV 256 x2_4 x20_23 H24) fun _ H25 =>
    (resM [(ldA 256 x2_4 H25).map (·.1), some (.bool true)]).map fun l => (one l, H25))

theorem f67_L0_eq (S : Seam (Value × Heap)) (C : CallF) (n : Nat) : ∀ (m : Nat) (env : Env) (H : Heap), aloopK (acodeK S Tryd.prog C n 21 (cAt f67_c [1, 0, 1, 0, 0])) m env H (kAt S Tryd.prog C n 21 f67_c [1, 0, 1, 0] (fin Tryd.prog Tryd.f67)) = f67_L0 S C n m (env 0) (env 2) (env 4) H := by
  intro m env H
  refine aloopK_eq (L := fun m env H => f67_L0 S C n m (env 0) (env 2) (env 4) H) (fun env H => rfl) (fun m env H => ?_) m env H
  kernel_rfl


noncomputable def f67 (S : Seam (Value × Heap)) (C : CallF) (n : Nat) (x0 : Value) (H : Heap) : Option (Value × Heap) :=
 S.b (newV [(.bool false), (.bool false), (.bool false), (.bool false), (.bool false), (.bool false), (.bool false), (.bool false), (.bool false), (.bool false), (.bool false), (.bool false), (.bool false), (.bool false), (.bool false), (.bool false), (.bool false), (.bool false), (.bool false), (.bool false), (.bool false), (.bool false), (.bool false), (.bool false), (.bool false), (.bool false), (.bool false), (.bool false), (.bool false), (.bool false), (.bool false), (.bool false), (.bool false), (.bool false), (.bool false), (.bool false), (.bool false), (.bool false), (.bool false), (.bool false), (.bool false), (.bool false), (.bool false), (.bool false), (.bool false), (.bool false), (.bool false), (.bool false), (.bool false), (.bool false), (.bool false), (.bool false), (.bool false), (.bool false), (.bool false), (.bool false), (.bool false), (.bool false), (.bool false), (.bool false), (.bool false), (.bool false), (.bool false), (.bool false), (.bool false), (.bool false), (.bool false), (.bool false), (.bool false), (.bool false), (.bool false), (.bool false), (.bool false), (.bool false), (.bool false), (.bool false), (.bool false), (.bool false), (.bool false), (.bool false), (.bool false), (.bool false), (.bool false), (.bool false), (.bool false), (.bool false), (.bool false), (.bool false), (.bool false), (.bool false), (.bool false), (.bool false), (.bool false), (.bool false), (.bool false), (.bool false), (.bool false), (.bool false), (.bool false), (.bool false), (.bool false), (.bool false), (.bool false), (.bool false), (.bool false), (.bool false), (.bool false), (.bool false), (.bool false), (.bool false), (.bool false), (.bool false), (.bool false), (.bool false), (.bool false), (.bool false), (.bool false), (.bool false), (.bool false), (.bool false), (.bool false), (.bool false), (.bool false), (.bool false), (.bool false), (.bool false), (.bool false), (.bool false), (.bool false), (.bool false), (.bool false), (.bool false), (.bool false), (.bool false), (.bool false), (.bool false), (.bool false), (.bool false), (.bool false), (.bool false), (.bool false), (.bool false), (.bool false), (.bool false), (.bool false), (.bool false), (.bool false), (.bool false), (.bool false), (.bool false), (.bool false), (.bool false), (.bool false), (.bool false), (.bool false), (.bool false), (.bool false), (.bool false), (.bool false), (.bool false), (.bool false), (.bool false), (.bool false), (.bool false), (.bool false), (.bool false), (.bool false), (.bool false), (.bool false), (.bool false), (.bool false), (.bool false), (.bool false), (.bool false), (.bool false), (.bool false), (.bool false), (.bool false), (.bool false), (.bool false), (.bool false), (.bool false), (.bool false), (.bool false), (.bool false), (.bool false), (.bool false), (.bool false), (.bool false), (.bool false), (.bool false), (.bool false), (.bool false), (.bool false), (.bool false), (.bool false), (.bool false), (.bool false), (.bool false), (.bool false), (.bool false), (.bool false), (.bool false), (.bool false), (.bool false), (.bool false), (.bool false), (.bool false), (.bool false), (.bool false), (.bool false), (.bool false), (.bool false), (.bool false), (.bool false), (.bool false), (.bool false), (.bool false), (.bool false), (.bool false), (.bool false), (.bool false), (.bool false), (.bool false), (.bool false), (.bool false), (.bool false), (.bool false), (.bool false), (.bool false), (.bool false), (.bool false), (.bool false), (.bool false), (.bool false), (.bool false), (.bool false), (.bool false), (.bool false), (.bool false), (.bool false), (.bool false), (.bool false), (.bool false), (.bool false), (.bool false), (.bool false), (.bool false), (.bool false), (.bool false), (.bool false), (.bool false), (.bool false), (.bool false), (.bool false), (.bool false)] H) fun x2_1 H2 =>
 f67_L0 S C n n x0 x2_1 (.int .i64 0) H2

noncomputable def f67G (S : Seam (Value × Heap)) (C : CallF) (n : Nat) (P0 : Env → Heap → Option (Value × Heap)) (x0 : Value) (H : Heap) : Option (Value × Heap) :=
 S.b (newV [(.bool false), (.bool false), (.bool false), (.bool false), (.bool false), (.bool false), (.bool false), (.bool false), (.bool false), (.bool false), (.bool false), (.bool false), (.bool false), (.bool false), (.bool false), (.bool false), (.bool false), (.bool false), (.bool false), (.bool false), (.bool false), (.bool false), (.bool false), (.bool false), (.bool false), (.bool false), (.bool false), (.bool false), (.bool false), (.bool false), (.bool false), (.bool false), (.bool false), (.bool false), (.bool false), (.bool false), (.bool false), (.bool false), (.bool false), (.bool false), (.bool false), (.bool false), (.bool false), (.bool false), (.bool false), (.bool false), (.bool false), (.bool false), (.bool false), (.bool false), (.bool false), (.bool false), (.bool false), (.bool false), (.bool false), (.bool false), (.bool false), (.bool false), (.bool false), (.bool false), (.bool false), (.bool false), (.bool false), (.bool false), (.bool false), (.bool false), (.bool false), (.bool false), (.bool false), (.bool false), (.bool false), (.bool false), (.bool false), (.bool false), (.bool false), (.bool false), (.bool false), (.bool false), (.bool false), (.bool false), (.bool false), (.bool false), (.bool false), (.bool false), (.bool false), (.bool false), (.bool false), (.bool false), (.bool false), (.bool false), (.bool false), (.bool false), (.bool false), (.bool false), (.bool false), (.bool false), (.bool false), (.bool false), (.bool false), (.bool false), (.bool false), (.bool false), (.bool false), (.bool false), (.bool false), (.bool false), (.bool false), (.bool false), (.bool false), (.bool false), (.bool false), (.bool false), (.bool false), (.bool false), (.bool false), (.bool false), (.bool false), (.bool false), (.bool false), (.bool false), (.bool false), (.bool false), (.bool false), (.bool false), (.bool false), (.bool false), (.bool false), (.bool false), (.bool false), (.bool false), (.bool false), (.bool false), (.bool false), (.bool false), (.bool false), (.bool false), (.bool false), (.bool false), (.bool false), (.bool false), (.bool false), (.bool false), (.bool false), (.bool false), (.bool false), (.bool false), (.bool false), (.bool false), (.bool false), (.bool false), (.bool false), (.bool false), (.bool false), (.bool false), (.bool false), (.bool false), (.bool false), (.bool false), (.bool false), (.bool false), (.bool false), (.bool false), (.bool false), (.bool false), (.bool false), (.bool false), (.bool false), (.bool false), (.bool false), (.bool false), (.bool false), (.bool false), (.bool false), (.bool false), (.bool false), (.bool false), (.bool false), (.bool false), (.bool false), (.bool false), (.bool false), (.bool false), (.bool false), (.bool false), (.bool false), (.bool false), (.bool false), (.bool false), (.bool false), (.bool false), (.bool false), (.bool false), (.bool false), (.bool false), (.bool false), (.bool false), (.bool false), (.bool false), (.bool false), (.bool false), (.bool false), (.bool false), (.bool false), (.bool false), (.bool false), (.bool false), (.bool false), (.bool false), (.bool false), (.bool false), (.bool false), (.bool false), (.bool false), (.bool false), (.bool false), (.bool false), (.bool false), (.bool false), (.bool false), (.bool false), (.bool false), (.bool false), (.bool false), (.bool false), (.bool false), (.bool false), (.bool false), (.bool false), (.bool false), (.bool false), (.bool false), (.bool false), (.bool false), (.bool false), (.bool false), (.bool false), (.bool false), (.bool false), (.bool false), (.bool false), (.bool false), (.bool false), (.bool false), (.bool false), (.bool false), (.bool false), (.bool false), (.bool false), (.bool false), (.bool false), (.bool false), (.bool false), (.bool false), (.bool false), (.bool false), (.bool false)] H) fun x2_26 H27 =>
 P0 (putE 21 (putE 21 (putE 21 (env0 [x0]) (some 2) x2_26) (some 3) (.bool false)) (some 4) (.int .i64 0)) H27

theorem f67_main (S : Seam (Value × Heap)) (C : CallF) (n : Nat) (x0 : Value) (H : Heap) : acodeK S Tryd.prog C n 21 f67_c (env0 [x0]) H (fin Tryd.prog Tryd.f67) = f67 S C n x0 H := by
  have h1 : acodeK S Tryd.prog C n 21 f67_c (env0 [x0]) H (fin Tryd.prog Tryd.f67) = f67G S C n (fun env H => aloopK (acodeK S Tryd.prog C n 21 (cAt f67_c [1, 0, 1, 0, 0])) n env H (kAt S Tryd.prog C n 21 f67_c [1, 0, 1, 0] (fin Tryd.prog Tryd.f67))) x0 H := by kernel_rfl
  have e0 : (fun env H => aloopK (acodeK S Tryd.prog C n 21 (cAt f67_c [1, 0, 1, 0, 0])) n env H (kAt S Tryd.prog C n 21 f67_c [1, 0, 1, 0] (fin Tryd.prog Tryd.f67))) = (fun env H => f67_L0 S C n n (env 0) (env 2) (env 4) H) := by funext env H; exact f67_L0_eq S C n n env H
  rw [e0] at h1
  exact h1.trans (by kernel_rfl)


theorem f67_eq {gl : Bool} {E : Ext} (hE : E 67 = none) (n : Nat) (x0 : Value) (H : Heap) : acall Tryd.prog gl E (n + 1) 67 [x0] H = f67 real (acall Tryd.prog gl E n) n x0 H :=
  (acall_eq (N := 21) Tryd.func67 (by kernel_rfl) (by kernel_rfl) hE (okgl f67_c (by kernel_rfl)) (by kernel_rfl)).trans (f67_main real _ n x0 H)

/-! strings.Trim -/
noncomputable def f50_c : Code := (Tryd.f50.body).getD .skip

noncomputable def f50 (S : Seam (Value × Heap)) (C : CallF) (n : Nat) (x0 : Value) (x1 : Value) (H : Heap) : Option (Value × Heap) :=
 S.b (up (binB Tryd.prog .eql 9 x0 (.string ⟨#[]⟩)) H) fun x8_1 H2 =>
 S.b (gd (wd x8_1 false) (some (x1, H2)) H2) fun x10_3 H4 =>
 S.b (gd (wd x8_1 false) (up (binB Tryd.prog .eql 9 x10_3 (.string ⟨#[]⟩)) H4) H4) fun x11_5 H6 =>
 S.b (pickV x8_1 (.bool true) x11_5 H6) fun x12_7 H8 =>
 S.i x12_7
 (some (x0, H8))
 (S.b (up (lenStr x1) H8) fun x15_9 H10 =>
  S.b (up (binB Tryd.prog .eql 3 x15_9 (.int .i64 1)) H10) fun x16_11 H12 =>
  S.b (gd (wd x16_11 true) (some (x1, H12)) H12) fun x18_13 H14 =>
  S.b (gd (wd x16_11 true) (up (idxS x18_13 (.int .i64 0)) H14) H14) fun x19_15 H16 =>
  S.b (gd (wd x16_11 true) (up (binB Tryd.prog .lss 5 x19_15 (.int .u8 128)) H16) H16) fun x20_17 H18 =>
  S.b (pickV x16_11 x20_17 (.bool false) H18) fun x21_19 H20 =>
  S.i x21_19
  (S.b (up (idxS x1 (.int .i64 0)) H20) fun x24_21 H22 =>
   S.b (C 66 [x0, x24_21] H22) fun x25_23 H24 =>
   S.c true (S.b (up (idxS x1 (.int .i64 0)) H24) fun x27_25 H26 =>
    S.b (C 65 [x25_23, x27_25] H26) fun x28_27 H28 =>
    S.c true (some (x28_27, H28))))
  (S.b (C 67 [x1] H20) fun x31_29 H30 =>
   S.b (extr 0 x31_29 H30) fun x32_31 H32 =>
   S.b (extr 1 x31_29 H32) fun x33_33 H34 =>
   S.b (newV [(.bool false), (.bool false), (.bool false), (.bool false), (.bool false), (.bool false), (.bool false), (.bool false), (.bool false), (.bool false), (.bool false), (.bool false), (.bool false), (.bool false), (.bool false), (.bool false), (.bool false), (.bool false), (.bool false), (.bool false), (.bool false), (.bool false), (.bool false), (.bool false), (.bool false), (.bool false), (.bool false), (.bool false), (.bool false), (.bool false), (.bool false), (.bool false), (.bool false), (.bool false), (.bool false), (.bool false), (.bool false), (.bool false), (.bool false), (.bool false), (.bool false), (.bool false), (.bool false), (.bool false), (.bool false), (.bool false), (.bool false), (.bool false), (.bool false), (.bool false), (.bool false), (.bool false), (.bool false), (.bool false), (.bool false), (.bool false), (.bool false), (.bool false), (.bool false), (.bool false), (.bool false), (.bool false), (.bool false), (.bool false), (.bool false), (.bool false), (.bool false), (.bool false), (.bool false), (.bool false), (.bool false), (.bool false), (.bool false), (.bool false), (.bool false), (.bool false), (.bool false), (.bool false), (.bool false), (.bool false), (.bool false), (.bool false), (.bool false), (.bool false), (.bool false), (.bool false), (.bool false), (.bool false), (.bool false), (.bool false), (.bool false), (.bool false), (.bool false), (.bool false), (.bool false), (.bool false), (.bool false), (.bool false), (.bool false), (.bool false), (.bool false), (.bool false), (.bool false), (.bool false), (.bool false), (.bool false), (.bool false), (.bool false), (.bool false), (.bool false), (.bool false), (.bool false), (.bool false), (.bool false), (.bool false), (.bool false), (.bool false), (.bool false), (.bool false), (.bool false), (.bool false), (.bool false), (.bool false), (.bool false), (.bool false), (.bool false), (.bool false), (.bool false), (.bool false), (.bool false), (.bool false), (.bool false), (.bool false), (.bool false), (.bool false), (.bool false), (.bool false), (.bool false), (.bool false), (.bool false), (.bool false), (.bool false), (.bool false), (.bool false), (.bool false), (.bool false), (.bool false), (.bool false), (.bool false), (.bool false), (.bool false), (.bool false), (.bool false), (.bool false), (.bool false), (.bool false), (.bool false), (.bool false), (.bool false), (.bool false), (.bool false), (.bool false), (.bool false), (.bool false), (.bool false), (.bool false), (.bool false), (.bool false), (.bool false), (.bool false), (.bool false), (.bool false), (.bool false), (.bool false), (.bool false), (.bool false), (.bool false), (.bool false), (.bool false), (.bool false), (.bool false), (.bool false), (.bool false), (.bool false), (.bool false), (.bool false), (.bool false), (.bool false), (.bool false), (.bool false), (.bool false), (.bool false), (.bool false), (.bool false), (.bool false), (.bool false), (.bool false), (.bool false), (.bool false), (.bool false), (.bool false), (.bool false), (.bool false), (.bool false), (.bool false), (.bool false), (.bool false), (.bool false), (.bool false), (.bool false), (.bool false), (.bool false), (.bool false), (.bool false), (.bool false), (.bool false), (.bool false), (.bool false), (.bool false), (.bool false), (.bool false), (.bool false), (.bool false), (.bool false), (.bool false), (.bool false), (.bool false), (.bool false), (.bool false), (.bool false), (.bool false), (.bool false), (.bool false), (.bool false), (.bool false), (.bool false), (.bool false), (.bool false), (.bool false), (.bool false), (.bool false), (.bool false), (.bool false), (.bool false), (.bool false), (.bool false), (.bool false), (.bool false), (.bool false), (.bool false), (.bool false), (.bool false), (.bool false), (.bool false), (.bool false), (.bool false)] H34) fun x5_35 H36 =>
   S.b (stV 256 x5_35 x32_31 H36) fun _ H37 =>
   S.i x33_33
   (S.b (C 69 [x0, x5_35] H37) fun x36_38 H39 =>
    S.b (C 68 [x36_38, x5_35] H39) fun x37_40 H41 =>
    some (x37_40, H41))
   (S.b (C 71 [x0, x1] H37) fun x40_42 H43 =>
    S.b (C 70 [x40_42, x1] H43) fun x42_44 H45 =>
    some (x42_44, H45))))

theorem f50_main (S : Seam (Value × Heap)) (C : CallF) (n : Nat) (x0 : Value) (x1 : Value) (H : Heap) : acodeK S Tryd.prog C n 43 f50_c (env0 [x0, x1]) H (fin Tryd.prog Tryd.f50) = f50 S C n x0 x1 H := by
  kernel_rfl


theorem f50_eq {gl : Bool} {E : Ext} (hE : E 50 = none) (n : Nat) (x0 : Value) (x1 : Value) (H : Heap) : acall Tryd.prog gl E (n + 1) 50 [x0, x1] H = f50 real (acall Tryd.prog gl E n) n x0 x1 H :=
  (acall_eq (N := 43) Tryd.func50 (by kernel_rfl) (by kernel_rfl) hE (okgl f50_c (by kernel_rfl)) (by kernel_rfl)).trans (f50_main real _ n x0 x1 H)

/-! incunable/talk.isPath -/
noncomputable def f32_c : Code := (Tryd.f32.body).getD .skip

noncomputable def f32 (S : Seam (Value × Heap)) (C : CallF) (n : Nat) (x0 : Value) (H : Heap) : Option (Value × Heap) :=
 S.b (up (lenStr x0) H) fun x4_1 H2 =>
 S.b (up (binB Tryd.prog .leq 3 (.int .i64 1) x4_1) H2) fun x5_3 H4 =>
 S.b (gd (wd x5_3 true) (some (x0, H4)) H4) fun x7_5 H6 =>
 S.b (gd (wd x5_3 true) (up (lenStr x7_5) H6) H6) fun x8_7 H8 =>
 S.b (gd (wd x5_3 true) (up (binB Tryd.prog .leq 3 x8_7 (.int .i64 32)) H8) H8) fun x9_9 H10 =>
 S.b (pickV x5_3 x9_9 (.bool false) H10) fun x10_11 H12 =>
 S.b (gd (wd x10_11 true) (some (x0, H12)) H12) fun x12_13 H14 =>
 S.b (gd (wd x10_11 true) (C 50 [x12_13, (.string ⟨#[97, 98, 99, 100, 101, 102, 103, 104, 105, 106, 107, 108, 109, 110, 111, 112, 113, 114, 115, 116, 117, 118, 119, 120, 121, 122, 48, 49, 50, 51, 52, 53, 54, 55, 56, 57, 46, 95, 45, 47]⟩)] H14) H14) fun x13_15 H16 =>
 S.b (gd (wd x10_11 true) (up (binB Tryd.prog .eql 9 x13_15 (.string ⟨#[]⟩)) H16) H16) fun x14_17 H18 =>
 S.b (pickV x10_11 x14_17 (.bool false) H18) fun x15_19 H20 =>
 some (x15_19, H20)

theorem f32_main (S : Seam (Value × Heap)) (C : CallF) (n : Nat) (x0 : Value) (H : Heap) : acodeK S Tryd.prog C n 16 f32_c (env0 [x0]) H (fin Tryd.prog Tryd.f32) = f32 S C n x0 H := by
  kernel_rfl


theorem f32_eq {gl : Bool} {E : Ext} (hE : E 32 = none) (n : Nat) (x0 : Value) (H : Heap) : acall Tryd.prog gl E (n + 1) 32 [x0] H = f32 real (acall Tryd.prog gl E n) n x0 H :=
  (acall_eq (N := 16) Tryd.func32 (by kernel_rfl) (by kernel_rfl) hE (okgl f32_c (by kernel_rfl)) (by kernel_rfl)).trans (f32_main real _ n x0 H)

/-! incunable/incunableref29.isPath -/
noncomputable def f33_c : Code := (Tryd.f33.body).getD .skip

noncomputable def f33_L0 (S : Seam (Value × Heap)) (C : CallF) (n : Nat) : Nat → Value → Value → Heap → Option (Value × Heap)
 | 0, _, _, _ => none
 | m + 1, x0_1, x3_2, H3 =>
   S.b (up (lenStr x0_1) H3) fun x7_4 H5 =>
   S.b (up (binB Tryd.prog .lss 3 x3_2 x7_4) H5) fun x8_6 H7 =>
   S.i x8_6
   (S.b (up (idxS x0_1 x3_2) H7) fun x13_8 H9 =>
    S.b (up (binB Tryd.prog .geq 5 x13_8 (.int .u8 97)) H9) fun x15_10 H11 =>
    S.b (gd (wd x15_10 true) (some (x13_8, H11)) H11) fun x17_12 H13 =>
    S.b (gd (wd x15_10 true) (up (binB Tryd.prog .leq 5 x17_12 (.int .u8 122)) H13) H13) fun x18_14 H15 =>
    S.b (pickV x15_10 x18_14 (.bool false) H15) fun x19_16 H17 =>
    S.b (gd (wd x19_16 false) (some (x13_8, H17)) H17) fun x21_18 H19 =>
    S.b (gd (wd x19_16 false) (up (binB Tryd.prog .geq 5 x21_18 (.int .u8 48)) H19) H19) fun x22_20 H21 =>
    S.b (gd (wd x19_16 false) (some (x22_20, H21)) H21) fun x23_22 H23 =>
    S.b (gd (wd x23_22 true) (some (x13_8, H23)) H23) fun x24_24 H25 =>
    S.b (gd (wd x23_22 true) (up (binB Tryd.prog .leq 5 x24_24 (.int .u8 57)) H25) H25) fun x25_26 H27 =>
    S.b (gd (wd x19_16 false) (pickV x23_22 x25_26 (.bool false) H27) H27) fun x26_28 H29 =>
    S.b (pickV x19_16 (.bool true) x26_28 H29) fun x27_30 H31 =>
    S.b (gd (wd x27_30 false) (some (x13_8, H31)) H31) fun x29_32 H33 =>
    S.b (gd (wd x27_30 false) (up (binB Tryd.prog .eql 5 x29_32 (.int .u8 46)) H33) H33) fun x30_34 H35 =>
    S.b (pickV x27_30 (.bool true) x30_34 H35) fun x31_36 H37 =>
    S.b (gd (wd x31_36 false) (some (x13_8, H37)) H37) fun x33_38 H39 =>
    S.b (gd (wd x31_36 false) (up (binB Tryd.prog .eql 5 x33_38 (.int .u8 95)) H39) H39) fun x34_40 H41 =>
    S.b (pickV x31_36 (.bool true) x34_40 H41) fun x35_42 H43 =>
    S.b (gd (wd x35_42 false) (some (x13_8, H43)) H43) fun x37_44 H45 =>
    S.b (gd (wd x35_42 false) (up (binB Tryd.prog .eql 5 x37_44 (.int .u8 45)) H45) H45) fun x38_46 H47 =>
    S.b (pickV x35_42 (.bool true) x38_46 H47) fun x39_48 H49 =>
    S.b (gd (wd x39_48 false) (some (x13_8, H49)) H49) fun x41_50 H51 =>
    S.b (gd (wd x39_48 false) (up (binB Tryd.prog .eql 5 x41_50 (.int .u8 47)) H51) H51) fun x42_52 H53 =>
    S.b (pickV x39_48 (.bool true) x42_52 H53) fun x43_54 H55 =>
    S.b (up (unB .not x43_54) H55) fun x44_56 H57 =>
    S.i x44_56
    (some ((.bool false), H57))
    (S.b (up (binB Tryd.prog .add 3 x3_2 (.int .i64 1)) H57) fun x10_58 H59 =>
     f33_L0 S C n m x0_1 x10_58 H59))
   (S.b (up (lenStr x0_1) H7) fun x46_60 H61 =>
    S.b (up (binB Tryd.prog .geq 3 x46_60 (.int .i64 1)) H61) fun x47_62 H63 =>
    S.b (gd (wd x47_62 true) (some (x0_1, H63)) H63) fun x49_64 H65 =>
    S.b (gd (wd x47_62 true) (up (lenStr x49_64) H65) H65) fun x50_66 H67 =>
    S.b (gd (wd x47_62 true) (up (binB Tryd.prog .leq 3 x50_66 (.int .i64 32)) H67) H67) fun x51_68 H69 =>
    S.b (pickV x47_62 x51_68 (.bool false) H69) fun x52_70 H71 =>
    some (x52_70, H71))

theorem f33_L0_eq (S : Seam (Value × Heap)) (C : CallF) (n : Nat) : ∀ (m : Nat) (env : Env) (H : Heap), aloopK (acodeK S Tryd.prog C n 53 (cAt f33_c [1, 0, 1, 0, 0])) m env H (kAt S Tryd.prog C n 53 f33_c [1, 0, 1, 0] (fin Tryd.prog Tryd.f33)) = f33_L0 S C n m (env 0) (env 3) H := by
  intro m env H
  refine aloopK_eq (L := fun m env H => f33_L0 S C n m (env 0) (env 3) H) (fun env H => rfl) (fun m env H => ?_) m env H
  kernel_rfl


noncomputable def f33 (S : Seam (Value × Heap)) (C : CallF) (n : Nat) (x0 : Value) (H : Heap) : Option (Value × Heap) :=
 f33_L0 S C n n x0 (.int .i64 0) H

noncomputable def f33G (S : Seam (Value × Heap)) (C : CallF) (n : Nat) (P0 : Env → Heap → Option (Value × Heap)) (x0 : Value) (H : Heap) : Option (Value × Heap) :=
 P0 (putE 53 (putE 53 (env0 [x0]) (some 2) (.bool false)) (some 3) (.int .i64 0)) H

theorem f33_main (S : Seam (Value × Heap)) (C : CallF) (n : Nat) (x0 : Value) (H : Heap) : acodeK S Tryd.prog C n 53 f33_c (env0 [x0]) H (fin Tryd.prog Tryd.f33) = f33 S C n x0 H := by
  have h1 : acodeK S Tryd.prog C n 53 f33_c (env0 [x0]) H (fin Tryd.prog Tryd.f33) = f33G S C n (fun env H => aloopK (acodeK S Tryd.prog C n 53 (cAt f33_c [1, 0, 1, 0, 0])) n env H (kAt S Tryd.prog C n 53 f33_c [1, 0, 1, 0] (fin Tryd.prog Tryd.f33))) x0 H := by kernel_rfl
  have e0 : (fun env H => aloopK (acodeK S Tryd.prog C n 53 (cAt f33_c [1, 0, 1, 0, 0])) n env H (kAt S Tryd.prog C n 53 f33_c [1, 0, 1, 0] (fin Tryd.prog Tryd.f33))) = (fun env H => f33_L0 S C n n (env 0) (env 3) H) := by funext env H; exact f33_L0_eq S C n n env H
  rw [e0] at h1
  exact h1.trans (by kernel_rfl)


theorem f33_eq {gl : Bool} {E : Ext} (hE : E 33 = none) (n : Nat) (x0 : Value) (H : Heap) : acall Tryd.prog gl E (n + 1) 33 [x0] H = f33 real (acall Tryd.prog gl E n) n x0 H :=
  (acall_eq (N := 53) Tryd.func33 (by kernel_rfl) (by kernel_rfl) hE (okgl f33_c (by kernel_rfl)) (by kernel_rfl)).trans (f33_main real _ n x0 H)

/-! incunable/talk.CheckAsk -/
noncomputable def f14_c : Code := (Tryd.f14.body).getD .skip

noncomputable def f14_J1 (S : Seam (Value × Heap)) (C : CallF) (n : Nat) (x1_25 x3_26 x4_27 : Value) (H28 : Heap) : Option (Value × Heap) :=
 S.b (up (fAddr 2 x1_25) H28) fun x28_29 H30 =>
 S.b (ldC x28_29 H30) fun x29_31 H32 =>
 S.b (up (lenS x29_31) H32) fun x30_33 H34 =>
 S.b (up (binB Tryd.prog .gtr 3 x30_33 (.int .i64 8192)) H34) fun x31_35 H36 =>
 S.i x31_35
 (some ((.int .i64 5), H36))
 (S.b (up (unB .not x3_26) H36) fun x34_37 H38 =>
  S.b (gd (wd x34_37 false) (some (x4_27, H38)) H38) fun x36_39 H40 =>
  S.b (gd (wd x34_37 false) (up (unB .not x36_39) H40) H40) fun x37_41 H42 =>
  S.b (pickV x34_37 (.bool true) x37_41 H42) fun x38_43 H44 =>
  S.i x38_43
  (some ((.int .i64 2), H44))
  (some ((.int .i64 0), H44)))

noncomputable def f14_J2 (S : Seam (Value × Heap)) (C : CallF) (n : Nat) (x1_61 x3_62 : Value) (H63 : Heap) : Option (Value × Heap) :=
 S.b (up (fAddr 2 x1_61) H63) fun x23_64 H65 =>
 S.b (ldC x23_64 H65) fun x24_66 H67 =>
 S.b (up (lenS x24_66) H67) fun x25_68 H69 =>
 S.b (up (binB Tryd.prog .eql 3 x25_68 (.int .i64 0)) H69) fun x26_70 H71 =>
 f14_J1 S C n x1_61 x3_62 x26_70 H71

noncomputable def f14_J3 (S : Seam (Value × Heap)) (C : CallF) (n : Nat) (x1_74 x3_75 x16_76 : Value) (H77 : Heap) : Option (Value × Heap) :=
 S.i x16_76
 (f14_J2 S C n x1_74 x3_75 H77)
 (f14_J1 S C n x1_74 x3_75 (.bool false) H77)

noncomputable def f14_J4 (S : Seam (Value × Heap)) (C : CallF) (n : Nat) (x1_47 x3_48 x9_49 x13_50 : Value) (H51 : Heap) : Option (Value × Heap) :=
 S.i x13_50
 (S.b (up (fAddr 1 x1_47) H51) fun x20_52 H53 =>
  S.b (ldC x20_52 H53) fun x21_54 H55 =>
  S.b (up (binB Tryd.prog .eql 9 x21_54 (.string ⟨#[]⟩)) H55) fun x22_56 H57 =>
  f14_J2 S C n x1_47 x22_56 H57)
 (S.b (up (binB Tryd.prog .eql 3 x9_49 (.int .i64 2)) H51) fun x17_72 H73 =>
  S.i x17_72
  (f14_J3 S C n x1_47 x3_48 x17_72 H73)
  (S.b (up (binB Tryd.prog .eql 3 x9_49 (.int .i64 3)) H73) fun x18_78 H79 =>
   S.i x18_78
   (f14_J3 S C n x1_47 x3_48 x18_78 H79)
   (S.b (up (binB Tryd.prog .eql 3 x9_49 (.int .i64 4)) H79) fun x19_80 H81 =>
    f14_J3 S C n x1_47 x3_48 x19_80 H81)))

noncomputable def f14_J5 (S : Seam (Value × Heap)) (C : CallF) (n : Nat) (x1_15 x3_16 x4_17 x9_18 x10_19 : Value) (H20 : Heap) : Option (Value × Heap) :=
 S.i x10_19
 (f14_J1 S C n x1_15 x3_16 x4_17 H20)
 (S.b (up (binB Tryd.prog .eql 3 x9_18 (.int .i64 6)) H20) fun x14_45 H46 =>
  S.i x14_45
  (f14_J4 S C n x1_15 x3_16 x9_18 x14_45 H46)
  (S.b (up (binB Tryd.prog .eql 3 x9_18 (.int .i64 7)) H46) fun x15_82 H83 =>
   f14_J4 S C n x1_15 x3_16 x9_18 x15_82 H83))

noncomputable def f14 (S : Seam (Value × Heap)) (C : CallF) (n : Nat) (x0 : Value) (H : Heap) : Option (Value × Heap) :=
 S.b (newV (Value.cells x0).toList H) fun x1_1 H2 =>
 S.b (up (fAddr 1 x1_1) H2) fun x5_3 H4 =>
 S.b (ldC x5_3 H4) fun x6_5 H6 =>
 S.b (C 32 [x6_5] H6) fun x7_7 H8 =>
 S.b (up (fAddr 0 x1_1) H8) fun x8_9 H10 =>
 S.b (ldC x8_9 H10) fun x9_11 H12 =>
 S.b (up (binB Tryd.prog .eql 3 x9_11 (.int .i64 1)) H12) fun x11_13 H14 =>
 S.i x11_13
 (f14_J5 S C n x1_1 x7_7 (.bool true) x9_11 x11_13 H14)
 (S.b (up (binB Tryd.prog .eql 3 x9_11 (.int .i64 5)) H14) fun x12_84 H85 =>
  f14_J5 S C n x1_1 x7_7 (.bool true) x9_11 x12_84 H85)

theorem f14_main (S : Seam (Value × Heap)) (C : CallF) (n : Nat) (x0 : Value) (H : Heap) : acodeK S Tryd.prog C n 39 f14_c (env0 [x0]) H (fin Tryd.prog Tryd.f14) = f14 S C n x0 H := by
  kernel_rfl


theorem f14_eq {gl : Bool} {E : Ext} (hE : E 14 = none) (n : Nat) (x0 : Value) (H : Heap) : acall Tryd.prog gl E (n + 1) 14 [x0] H = f14 real (acall Tryd.prog gl E n) n x0 H :=
  (acall_eq (N := 39) Tryd.func14 (by kernel_rfl) (by kernel_rfl) hE (okgl f14_c (by kernel_rfl)) (by kernel_rfl)).trans (f14_main real _ n x0 H)

/-! incunable/incunableref29.CheckAsk -/
noncomputable def f15_c : Code := (Tryd.f15.body).getD .skip

noncomputable def f15_J1 (S : Seam (Value × Heap)) (C : CallF) (n : Nat) (x3_66 : Value) (H67 : Heap) : Option (Value × Heap) :=
 S.b (up (unB .not x3_66) H67) fun x47_68 H69 =>
 S.i x47_68
 (some ((.int .i64 2), H69))
 (some ((.int .i64 0), H69))

noncomputable def f15_J2 (S : Seam (Value × Heap)) (C : CallF) (n : Nat) (x1_39 x3_40 : Value) (H41 : Heap) : Option (Value × Heap) :=
 S.b (up (fAddr 0 x1_39) H41) fun x31_42 H43 =>
 S.b (ldC x31_42 H43) fun x32_44 H45 =>
 S.b (up (binB Tryd.prog .neq 3 x32_44 (.int .i64 1)) H45) fun x33_46 H47 =>
 S.b (gd (wd x33_46 true) (up (fAddr 0 x1_39) H47) H47) fun x35_48 H49 =>
 S.b (gd (wd x33_46 true) (ldC x35_48 H49) H49) fun x36_50 H51 =>
 S.b (gd (wd x33_46 true) (up (binB Tryd.prog .neq 3 x36_50 (.int .i64 5)) H51) H51) fun x37_52 H53 =>
 S.b (pickV x33_46 x37_52 (.bool false) H53) fun x38_54 H55 =>
 S.i x38_54
 (S.b (gd (wd x3_40 true) (up (fAddr 2 x1_39) H55) H55) fun x41_56 H57 =>
  S.b (gd (wd x3_40 true) (ldC x41_56 H57) H57) fun x42_58 H59 =>
  S.b (gd (wd x3_40 true) (up (lenS x42_58) H59) H59) fun x43_60 H61 =>
  S.b (gd (wd x3_40 true) (up (binB Tryd.prog .eql 3 x43_60 (.int .i64 0)) H61) H61) fun x44_62 H63 =>
  S.b (pickV x3_40 x44_62 (.bool false) H63) fun x45_64 H65 =>
  f15_J1 S C n x45_64 H65)
 (f15_J1 S C n x3_40 H55)

noncomputable def f15 (S : Seam (Value × Heap)) (C : CallF) (n : Nat) (x0 : Value) (H : Heap) : Option (Value × Heap) :=
 S.b (newV (Value.cells x0).toList H) fun x1_1 H2 =>
 S.b (up (fAddr 2 x1_1) H2) fun x4_3 H4 =>
 S.b (ldC x4_3 H4) fun x5_5 H6 =>
 S.b (up (lenS x5_5) H6) fun x6_7 H8 =>
 S.b (up (binB Tryd.prog .gtr 3 x6_7 (.int .i64 8192)) H8) fun x7_9 H10 =>
 S.i x7_9
 (some ((.int .i64 5), H10))
 (S.b (up (fAddr 0 x1_1) H10) fun x8_11 H12 =>
  S.b (ldC x8_11 H12) fun x9_13 H14 =>
  S.b (up (binB Tryd.prog .geq 3 x9_13 (.int .i64 1)) H14) fun x10_15 H16 =>
  S.b (gd (wd x10_15 true) (up (fAddr 0 x1_1) H16) H16) fun x12_17 H18 =>
  S.b (gd (wd x10_15 true) (ldC x12_17 H18) H18) fun x13_19 H20 =>
  S.b (gd (wd x10_15 true) (up (binB Tryd.prog .leq 3 x13_19 (.int .i64 7)) H20) H20) fun x14_21 H22 =>
  S.b (pickV x10_15 x14_21 (.bool false) H22) fun x15_23 H24 =>
  S.b (up (fAddr 0 x1_1) H24) fun x16_25 H26 =>
  S.b (ldC x16_25 H26) fun x17_27 H28 =>
  S.b (up (binB Tryd.prog .leq 3 x17_27 (.int .i64 5)) H28) fun x18_29 H30 =>
  S.i x18_29
  (S.b (gd (wd x15_23 true) (up (fAddr 1 x1_1) H30) H30) fun x21_31 H32 =>
   S.b (gd (wd x15_23 true) (ldC x21_31 H32) H32) fun x22_33 H34 =>
   S.b (gd (wd x15_23 true) (C 33 [x22_33] H34) H34) fun x23_35 H36 =>
   S.b (pickV x15_23 x23_35 (.bool false) H36) fun x24_37 H38 =>
   f15_J2 S C n x1_1 x24_37 H38)
  (S.b (gd (wd x15_23 true) (up (fAddr 1 x1_1) H30) H30) fun x27_70 H71 =>
   S.b (gd (wd x15_23 true) (ldC x27_70 H71) H71) fun x28_72 H73 =>
   S.b (gd (wd x15_23 true) (up (binB Tryd.prog .eql 9 x28_72 (.string ⟨#[]⟩)) H73) H73) fun x29_74 H75 =>
   S.b (pickV x15_23 x29_74 (.bool false) H75) fun x30_76 H77 =>
   f15_J2 S C n x1_1 x30_76 H77))

theorem f15_main (S : Seam (Value × Heap)) (C : CallF) (n : Nat) (x0 : Value) (H : Heap) : acodeK S Tryd.prog C n 48 f15_c (env0 [x0]) H (fin Tryd.prog Tryd.f15) = f15 S C n x0 H := by
  kernel_rfl


theorem f15_eq {gl : Bool} {E : Ext} (hE : E 15 = none) (n : Nat) (x0 : Value) (H : Heap) : acall Tryd.prog gl E (n + 1) 15 [x0] H = f15 real (acall Tryd.prog gl E n) n x0 H :=
  (acall_eq (N := 48) Tryd.func15 (by kernel_rfl) (by kernel_rfl) hE (okgl f15_c (by kernel_rfl)) (by kernel_rfl)).trans (f15_main real _ n x0 H)

/-! incunable/talk.CheckAnswer -/
noncomputable def f20_c : Code := (Tryd.f20.body).getD .skip

noncomputable def f20 (S : Seam (Value × Heap)) (C : CallF) (n : Nat) (x0 : Value) (H : Heap) : Option (Value × Heap) :=
 S.b (newV (Value.cells x0).toList H) fun x1_1 H2 =>
 S.b (up (fAddr 3 x1_1) H2) fun x4_3 H4 =>
 S.b (ldC x4_3 H4) fun x5_5 H6 =>
 S.b (up (lenStr x5_5) H6) fun x6_7 H8 =>
 S.b (up (binB Tryd.prog .gtr 3 x6_7 (.int .i64 32)) H8) fun x7_9 H10 =>
 S.b (gd (wd x7_9 false) (up (fAddr 4 x1_1) H10) H10) fun x9_11 H12 =>
 S.b (gd (wd x7_9 false) (ldC x9_11 H12) H12) fun x10_13 H14 =>
 S.b (gd (wd x7_9 false) (up (lenS x10_13) H14) H14) fun x11_15 H16 =>
 S.b (gd (wd x7_9 false) (up (binB Tryd.prog .gtr 3 x11_15 (.int .i64 262144)) H16) H16) fun x12_17 H18 =>
 S.b (pickV x7_9 (.bool true) x12_17 H18) fun x13_19 H20 =>
 S.i x13_19
 (some ((.int .i64 5), H20))
 (S.b (up (fAddr 0 x1_1) H20) fun x15_21 H22 =>
  S.b (ldC x15_21 H22) fun x16_23 H24 =>
  S.b (up (binB Tryd.prog .lss 3 x16_23 (.int .i64 0)) H24) fun x17_25 H26 =>
  S.b (gd (wd x17_25 false) (up (fAddr 0 x1_1) H26) H26) fun x19_27 H28 =>
  S.b (gd (wd x17_25 false) (ldC x19_27 H28) H28) fun x20_29 H30 =>
  S.b (gd (wd x17_25 false) (up (binB Tryd.prog .gtr 3 x20_29 (.int .i64 7)) H30) H30) fun x21_31 H32 =>
  S.b (pickV x17_25 (.bool true) x21_31 H32) fun x22_33 H34 =>
  S.b (gd (wd x22_33 false) (up (fAddr 1 x1_1) H34) H34) fun x24_35 H36 =>
  S.b (gd (wd x22_33 false) (ldC x24_35 H36) H36) fun x25_37 H38 =>
  S.b (gd (wd x22_33 false) (up (binB Tryd.prog .lss 26 x25_37 (.int .i64 0)) H38) H38) fun x26_39 H40 =>
  S.b (pickV x22_33 (.bool true) x26_39 H40) fun x27_41 H42 =>
  S.b (gd (wd x27_41 false) (up (fAddr 1 x1_1) H42) H42) fun x29_43 H44 =>
  S.b (gd (wd x27_41 false) (ldC x29_43 H44) H44) fun x30_45 H46 =>
  S.b (gd (wd x27_41 false) (up (binB Tryd.prog .gtr 26 x30_45 (.int .i64 999)) H46) H46) fun x31_47 H48 =>
  S.b (pickV x27_41 (.bool true) x31_47 H48) fun x32_49 H50 =>
  S.b (gd (wd x32_49 false) (up (fAddr 2 x1_1) H50) H50) fun x34_51 H52 =>
  S.b (gd (wd x32_49 false) (ldC x34_51 H52) H52) fun x35_53 H54 =>
  S.b (gd (wd x32_49 false) (up (binB Tryd.prog .lss 3 x35_53 (.int .i64 0)) H54) H54) fun x36_55 H56 =>
  S.b (pickV x32_49 (.bool true) x36_55 H56) fun x37_57 H58 =>
  S.b (gd (wd x37_57 false) (up (fAddr 2 x1_1) H58) H58) fun x39_59 H60 =>
  S.b (gd (wd x37_57 false) (ldC x39_59 H60) H60) fun x40_61 H62 =>
  S.b (gd (wd x37_57 false) (up (binB Tryd.prog .gtr 3 x40_61 (.int .i64 9007199254740991)) H62) H62) fun x41_63 H64 =>
  S.b (pickV x37_57 (.bool true) x41_63 H64) fun x42_65 H66 =>
  S.i x42_65
  (some ((.int .i64 2), H66))
  (some ((.int .i64 0), H66)))

theorem f20_main (S : Seam (Value × Heap)) (C : CallF) (n : Nat) (x0 : Value) (H : Heap) : acodeK S Tryd.prog C n 43 f20_c (env0 [x0]) H (fin Tryd.prog Tryd.f20) = f20 S C n x0 H := by
  kernel_rfl


theorem f20_eq {gl : Bool} {E : Ext} (hE : E 20 = none) (n : Nat) (x0 : Value) (H : Heap) : acall Tryd.prog gl E (n + 1) 20 [x0] H = f20 real (acall Tryd.prog gl E n) n x0 H :=
  (acall_eq (N := 43) Tryd.func20 (by kernel_rfl) (by kernel_rfl) hE (okgl f20_c (by kernel_rfl)) (by kernel_rfl)).trans (f20_main real _ n x0 H)

/-! incunable/incunableref29.CheckAnswer -/
noncomputable def f21_c : Code := (Tryd.f21.body).getD .skip

noncomputable def f21 (S : Seam (Value × Heap)) (C : CallF) (n : Nat) (x0 : Value) (H : Heap) : Option (Value × Heap) :=
 S.b (newV (Value.cells x0).toList H) fun x1_1 H2 =>
 S.b (up (fAddr 3 x1_1) H2) fun x3_3 H4 =>
 S.b (ldC x3_3 H4) fun x4_5 H6 =>
 S.b (up (lenStr x4_5) H6) fun x5_7 H8 =>
 S.b (up (binB Tryd.prog .gtr 3 x5_7 (.int .i64 32)) H8) fun x6_9 H10 =>
 S.b (gd (wd x6_9 false) (up (fAddr 4 x1_1) H10) H10) fun x8_11 H12 =>
 S.b (gd (wd x6_9 false) (ldC x8_11 H12) H12) fun x9_13 H14 =>
 S.b (gd (wd x6_9 false) (up (lenS x9_13) H14) H14) fun x10_15 H16 =>
 S.b (gd (wd x6_9 false) (up (binB Tryd.prog .gtr 3 x10_15 (.int .i64 262144)) H16) H16) fun x11_17 H18 =>
 S.b (pickV x6_9 (.bool true) x11_17 H18) fun x12_19 H20 =>
 S.i x12_19
 (some ((.int .i64 5), H20))
 (S.b (up (fAddr 0 x1_1) H20) fun x13_21 H22 =>
  S.b (ldC x13_21 H22) fun x14_23 H24 =>
  S.b (up (binB Tryd.prog .lss 3 x14_23 (.int .i64 0)) H24) fun x15_25 H26 =>
  S.b (gd (wd x15_25 false) (up (fAddr 0 x1_1) H26) H26) fun x17_27 H28 =>
  S.b (gd (wd x15_25 false) (ldC x17_27 H28) H28) fun x18_29 H30 =>
  S.b (gd (wd x15_25 false) (up (binB Tryd.prog .gtr 3 x18_29 (.int .i64 7)) H30) H30) fun x19_31 H32 =>
  S.b (pickV x15_25 (.bool true) x19_31 H32) fun x20_33 H34 =>
  S.b (gd (wd x20_33 false) (up (fAddr 1 x1_1) H34) H34) fun x22_35 H36 =>
  S.b (gd (wd x20_33 false) (ldC x22_35 H36) H36) fun x23_37 H38 =>
  S.b (gd (wd x20_33 false) (up (binB Tryd.prog .lss 26 x23_37 (.int .i64 0)) H38) H38) fun x24_39 H40 =>
  S.b (pickV x20_33 (.bool true) x24_39 H40) fun x25_41 H42 =>
  S.b (gd (wd x25_41 false) (up (fAddr 1 x1_1) H42) H42) fun x27_43 H44 =>
  S.b (gd (wd x25_41 false) (ldC x27_43 H44) H44) fun x28_45 H46 =>
  S.b (gd (wd x25_41 false) (up (binB Tryd.prog .gtr 26 x28_45 (.int .i64 999)) H46) H46) fun x29_47 H48 =>
  S.b (pickV x25_41 (.bool true) x29_47 H48) fun x30_49 H50 =>
  S.b (gd (wd x30_49 false) (up (fAddr 2 x1_1) H50) H50) fun x32_51 H52 =>
  S.b (gd (wd x30_49 false) (ldC x32_51 H52) H52) fun x33_53 H54 =>
  S.b (gd (wd x30_49 false) (up (binB Tryd.prog .lss 3 x33_53 (.int .i64 0)) H54) H54) fun x34_55 H56 =>
  S.b (pickV x30_49 (.bool true) x34_55 H56) fun x35_57 H58 =>
  S.b (gd (wd x35_57 false) (up (fAddr 2 x1_1) H58) H58) fun x37_59 H60 =>
  S.b (gd (wd x35_57 false) (ldC x37_59 H60) H60) fun x38_61 H62 =>
  S.b (gd (wd x35_57 false) (up (binB Tryd.prog .gtr 3 x38_61 (.int .i64 9007199254740991)) H62) H62) fun x39_63 H64 =>
  S.b (pickV x35_57 (.bool true) x39_63 H64) fun x40_65 H66 =>
  S.i x40_65
  (some ((.int .i64 2), H66))
  (some ((.int .i64 0), H66)))

theorem f21_main (S : Seam (Value × Heap)) (C : CallF) (n : Nat) (x0 : Value) (H : Heap) : acodeK S Tryd.prog C n 41 f21_c (env0 [x0]) H (fin Tryd.prog Tryd.f21) = f21 S C n x0 H := by
  kernel_rfl


theorem f21_eq {gl : Bool} {E : Ext} (hE : E 21 = none) (n : Nat) (x0 : Value) (H : Heap) : acall Tryd.prog gl E (n + 1) 21 [x0] H = f21 real (acall Tryd.prog gl E n) n x0 H :=
  (acall_eq (N := 41) Tryd.func21 (by kernel_rfl) (by kernel_rfl) hE (okgl f21_c (by kernel_rfl)) (by kernel_rfl)).trans (f21_main real _ n x0 H)

/-! incunable/talk.numbers -/
noncomputable def f29_c : Code := (Tryd.f29.body).getD .skip

noncomputable def f29_L0 (S : Seam (Value × Heap)) (C : CallF) (n : Nat) : Nat → Value → Value → Value → Value → Heap → Option (Value × Heap)
 | 0, _, _, _, _, _ => none
 | m + 1, x2_3, x7_4, x8_5, x9_6, H7 =>
   S.b (up (binB Tryd.prog .lss 3 x9_6 x8_5) H7) fun x10_8 H9 =>
   S.i x10_8
   (S.b (up (iAddrS 1 x7_4 x9_6) H9) fun x11_10 H11 =>
    S.b (ldC x11_10 H11) fun x12_12 H13 =>
    S.b (C 48 [x12_12] H13) fun x15_14 H15 =>
    S.b (extr 0 x15_14 H15) fun x16_16 H17 =>
    S.b (extr 1 x15_14 H17) fun x17_18 H19 =>
    S.b (app 1 1 x2_3 x16_16 H19) fun x20_20 H21 =>
    S.b (up (binB Tryd.prog .add 3 x9_6 (.int .i64 1)) H21) fun x21_22 H23 =>
    f29_L0 S C n m x20_20 x7_4 x8_5 x21_22 H23)
   (some (x2_3, H9))

theorem f29_L0_eq (S : Seam (Value × Heap)) (C : CallF) (n : Nat) : ∀ (m : Nat) (env : Env) (H : Heap), aloopK (acodeK S Tryd.prog C n 23 (cAt f29_c [1, 0, 1, 0, 0])) m env H (kAt S Tryd.prog C n 23 f29_c [1, 0, 1, 0] (fin Tryd.prog Tryd.f29)) = f29_L0 S C n m (env 2) (env 7) (env 8) (env 9) H := by
  intro m env H
  refine aloopK_eq (L := fun m env H => f29_L0 S C n m (env 2) (env 7) (env 8) (env 9) H) (fun env H => rfl) (fun m env H => ?_) m env H
  kernel_rfl


noncomputable def f29 (S : Seam (Value × Heap)) (C : CallF) (n : Nat) (x0 : Value) (H : Heap) : Option (Value × Heap) :=
 S.b (up (lenS x0) H) fun x8_1 H2 =>
 f29_L0 S C n n (.slice none 0 0) x0 x8_1 (.int .i64 0) H2

noncomputable def f29G (S : Seam (Value × Heap)) (C : CallF) (n : Nat) (P0 : Env → Heap → Option (Value × Heap)) (x0 : Value) (H : Heap) : Option (Value × Heap) :=
 S.b (up (lenS x0) H) fun x8_24 H25 =>
 P0 (putE 23 (putE 23 (putE 23 (putE 23 (env0 [x0]) (some 2) (.slice none 0 0)) (some 7) x0) (some 8) x8_24) (some 9) (.int .i64 0)) H25

theorem f29_main (S : Seam (Value × Heap)) (C : CallF) (n : Nat) (x0 : Value) (H : Heap) : acodeK S Tryd.prog C n 23 f29_c (env0 [x0]) H (fin Tryd.prog Tryd.f29) = f29 S C n x0 H := by
  have h1 : acodeK S Tryd.prog C n 23 f29_c (env0 [x0]) H (fin Tryd.prog Tryd.f29) = f29G S C n (fun env H => aloopK (acodeK S Tryd.prog C n 23 (cAt f29_c [1, 0, 1, 0, 0])) n env H (kAt S Tryd.prog C n 23 f29_c [1, 0, 1, 0] (fin Tryd.prog Tryd.f29))) x0 H := by kernel_rfl
  have e0 : (fun env H => aloopK (acodeK S Tryd.prog C n 23 (cAt f29_c [1, 0, 1, 0, 0])) n env H (kAt S Tryd.prog C n 23 f29_c [1, 0, 1, 0] (fin Tryd.prog Tryd.f29))) = (fun env H => f29_L0 S C n n (env 2) (env 7) (env 8) (env 9) H) := by funext env H; exact f29_L0_eq S C n n env H
  rw [e0] at h1
  exact h1.trans (by kernel_rfl)


theorem f29_eq {gl : Bool} {E : Ext} (hE : E 29 = none) (n : Nat) (x0 : Value) (H : Heap) : acall Tryd.prog gl E (n + 1) 29 [x0] H = f29 real (acall Tryd.prog gl E n) n x0 H :=
  (acall_eq (N := 23) Tryd.func29 (by kernel_rfl) (by kernel_rfl) hE (okgl f29_c (by kernel_rfl)) (by kernel_rfl)).trans (f29_main real _ n x0 H)

/-! incunable/talk.texts -/
noncomputable def f28_c : Code := (Tryd.f28.body).getD .skip

noncomputable def f28_L0 (S : Seam (Value × Heap)) (C : CallF) (n : Nat) : Nat → Value → Value → Value → Value → Heap → Option (Value × Heap)
 | 0, _, _, _, _, _ => none
 | m + 1, x0_3, x9_4, x10_5, x11_6, H7 =>
   S.b (up (binB Tryd.prog .lss 3 x11_6 x10_5) H7) fun x12_8 H9 =>
   S.i x12_8
   (S.b (up (iAddrS 1 x9_4 x11_6) H9) fun x13_10 H11 =>
    S.b (ldC x13_10 H11) fun x14_12 H13 =>
    S.b (up (lenS x14_12) H13) fun x18_14 H15 =>
    S.b (C 46 [x14_12, x18_14] H15) fun x19_16 H17 =>
    S.b (extr 0 x19_16 H17) fun x20_18 H19 =>
    S.b (extr 1 x19_16 H19) fun x21_20 H21 =>
    S.b (bldS 1 2 [(.slice none 0 0)] [(0, 1, x0_3), (1, 1, x20_18)] H21) fun x24_22 H23 =>
    S.b (C 47 [x24_22] H23) fun x25_24 H25 =>
    S.b (up (binB Tryd.prog .add 3 x11_6 (.int .i64 1)) H25) fun x26_26 H27 =>
    f28_L0 S C n m x25_24 x9_4 x10_5 x26_26 H27)
   (some (x0_3, H9))

theorem f28_L0_eq (S : Seam (Value × Heap)) (C : CallF) (n : Nat) : ∀ (m : Nat) (env : Env) (H : Heap), aloopK (acodeK S Tryd.prog C n 28 (cAt f28_c [1, 0, 1, 0, 0])) m env H (kAt S Tryd.prog C n 28 f28_c [1, 0, 1, 0] (fin Tryd.prog Tryd.f28)) = f28_L0 S C n m (env 0) (env 9) (env 10) (env 11) H := by
  intro m env H
  refine aloopK_eq (L := fun m env H => f28_L0 S C n m (env 0) (env 9) (env 10) (env 11) H) (fun env H => rfl) (fun m env H => ?_) m env H
  kernel_rfl


noncomputable def f28 (S : Seam (Value × Heap)) (C : CallF) (n : Nat) (x0 : Value) (x1 : Value) (H : Heap) : Option (Value × Heap) :=
 S.b (up (lenS x1) H) fun x10_1 H2 =>
 f28_L0 S C n n x0 x1 x10_1 (.int .i64 0) H2

noncomputable def f28G (S : Seam (Value × Heap)) (C : CallF) (n : Nat) (P0 : Env → Heap → Option (Value × Heap)) (x0 : Value) (x1 : Value) (H : Heap) : Option (Value × Heap) :=
 S.b (up (lenS x1) H) fun x10_28 H29 =>
 P0 (putE 28 (putE 28 (putE 28 (putE 28 (env0 [x0, x1]) (some 4) (.slice none 0 0)) (some 9) x1) (some 10) x10_28) (some 11) (.int .i64 0)) H29

theorem f28_main (S : Seam (Value × Heap)) (C : CallF) (n : Nat) (x0 : Value) (x1 : Value) (H : Heap) : acodeK S Tryd.prog C n 28 f28_c (env0 [x0, x1]) H (fin Tryd.prog Tryd.f28) = f28 S C n x0 x1 H := by
  have h1 : acodeK S Tryd.prog C n 28 f28_c (env0 [x0, x1]) H (fin Tryd.prog Tryd.f28) = f28G S C n (fun env H => aloopK (acodeK S Tryd.prog C n 28 (cAt f28_c [1, 0, 1, 0, 0])) n env H (kAt S Tryd.prog C n 28 f28_c [1, 0, 1, 0] (fin Tryd.prog Tryd.f28))) x0 x1 H := by kernel_rfl
  have e0 : (fun env H => aloopK (acodeK S Tryd.prog C n 28 (cAt f28_c [1, 0, 1, 0, 0])) n env H (kAt S Tryd.prog C n 28 f28_c [1, 0, 1, 0] (fin Tryd.prog Tryd.f28))) = (fun env H => f28_L0 S C n n (env 0) (env 9) (env 10) (env 11) H) := by funext env H; exact f28_L0_eq S C n n env H
  rw [e0] at h1
  exact h1.trans (by kernel_rfl)


theorem f28_eq {gl : Bool} {E : Ext} (hE : E 28 = none) (n : Nat) (x0 : Value) (x1 : Value) (H : Heap) : acall Tryd.prog gl E (n + 1) 28 [x0, x1] H = f28 real (acall Tryd.prog gl E n) n x0 x1 H :=
  (acall_eq (N := 28) Tryd.func28 (by kernel_rfl) (by kernel_rfl) hE (okgl f28_c (by kernel_rfl)) (by kernel_rfl)).trans (f28_main real _ n x0 x1 H)

/-! incunable/talk.Ask -/
noncomputable def f11_c : Code := (Tryd.f11.body).getD .skip

noncomputable def f11 (S : Seam (Value × Heap)) (C : CallF) (n : Nat) (x0 : Value) (H : Heap) : Option (Value × Heap) :=
 S.b (newV (Value.cells x0).toList H) fun x1_1 H2 =>
 S.b (ldA 3 x1_1 H2) fun x5_3 H4 =>
 S.b (C 14 [x5_3] H4) fun x6_5 H6 =>
 S.b (up (binB Tryd.prog .neq 26 x6_5 (.int .i64 0)) H6) fun x8_7 H8 =>
 S.i x8_7
 (some (.tuple #[(.slice none 0 0), x6_5], H8))
 (S.b (up (fAddr 0 x1_1) H8) fun x10_9 H10 =>
  S.c true (S.b (ldC x10_9 H10) fun x11_11 H12 =>
  S.b (bldS 1 1 [(.int .i64 0)] [(0, 1, x11_11)] H12) fun x12_13 H14 =>
  S.b (C 29 [x12_13] H14) fun x13_15 H16 =>
  S.c true (S.b (up (fAddr 1 x1_1) H16) fun x14_17 H18 =>
   S.c ((sameBlk H14 H16 (blkOf x14_17)) && true) (S.b (ldC x14_17 H18) fun x15_19 H20 =>
   S.b (ofStr x15_19 H20) fun x16_21 H22 =>
   S.b (up (fAddr 2 x1_1) H22) fun x17_23 H24 =>
   S.c ((sameBlk H14 H16 (blkOf x17_23)) && true) (S.b (ldC x17_23 H24) fun x18_25 H26 =>
   S.b (bldS 1 2 [(.slice none 0 0)] [(0, 1, x16_21), (1, 1, x18_25)] H26) fun x19_27 H28 =>
   S.b (C 28 [x13_15, x19_27] H28) fun x20_29 H30 =>
   S.c true (some (.tuple #[x20_29, (.int .i64 0)], H30)))))))

theorem f11_main (S : Seam (Value × Heap)) (C : CallF) (n : Nat) (x0 : Value) (H : Heap) : acodeK S Tryd.prog C n 21 f11_c (env0 [x0]) H (fin Tryd.prog Tryd.f11) = f11 S C n x0 H := by
  kernel_rfl


theorem f11_eq {gl : Bool} {E : Ext} (hE : E 11 = none) (n : Nat) (x0 : Value) (H : Heap) : acall Tryd.prog gl E (n + 1) 11 [x0] H = f11 real (acall Tryd.prog gl E n) n x0 H :=
  (acall_eq (N := 21) Tryd.func11 (by kernel_rfl) (by kernel_rfl) hE (okgl f11_c (by kernel_rfl)) (by kernel_rfl)).trans (f11_main real _ n x0 H)

/-! incunable/talk.Answer -/
noncomputable def f18_c : Code := (Tryd.f18.body).getD .skip

noncomputable def f18 (S : Seam (Value × Heap)) (C : CallF) (n : Nat) (x0 : Value) (H : Heap) : Option (Value × Heap) :=
 S.b (newV (Value.cells x0).toList H) fun x1_1 H2 =>
 S.b (ldA 5 x1_1 H2) fun x5_3 H4 =>
 S.b (C 20 [x5_3] H4) fun x6_5 H6 =>
 S.b (up (binB Tryd.prog .neq 26 x6_5 (.int .i64 0)) H6) fun x8_7 H8 =>
 S.i x8_7
 (some (.tuple #[(.slice none 0 0), x6_5], H8))
 (S.b (up (fAddr 0 x1_1) H8) fun x10_9 H10 =>
  S.c true (S.b (ldC x10_9 H10) fun x11_11 H12 =>
  S.b (up (fAddr 1 x1_1) H12) fun x12_13 H14 =>
  S.c true (S.b (ldC x12_13 H14) fun x13_15 H16 =>
  S.b (up (fAddr 2 x1_1) H16) fun x14_17 H18 =>
  S.c true (S.b (ldC x14_17 H18) fun x15_19 H20 =>
  S.b (bldS 1 3 [(.int .i64 0)] [(0, 1, x11_11), (1, 1, x13_15), (2, 1, x15_19)] H20) fun x16_21 H22 =>
  S.b (C 29 [x16_21] H22) fun x17_23 H24 =>
  S.c true (S.b (up (fAddr 3 x1_1) H24) fun x18_25 H26 =>
   S.c ((sameBlk H22 H24 (blkOf x18_25)) && true) (S.b (ldC x18_25 H26) fun x19_27 H28 =>
   S.b (ofStr x19_27 H28) fun x20_29 H30 =>
   S.b (up (fAddr 4 x1_1) H30) fun x21_31 H32 =>
   S.c ((sameBlk H22 H24 (blkOf x21_31)) && true) (S.b (ldC x21_31 H32) fun x22_33 H34 =>
   S.b (bldS 1 2 [(.slice none 0 0)] [(0, 1, x20_29), (1, 1, x22_33)] H34) fun x23_35 H36 =>
   S.b (C 28 [x17_23, x23_35] H36) fun x24_37 H38 =>
   S.c true (some (.tuple #[x24_37, (.int .i64 0)], H38)))))))))

theorem f18_main (S : Seam (Value × Heap)) (C : CallF) (n : Nat) (x0 : Value) (H : Heap) : acodeK S Tryd.prog C n 25 f18_c (env0 [x0]) H (fin Tryd.prog Tryd.f18) = f18 S C n x0 H := by
  kernel_rfl


theorem f18_eq {gl : Bool} {E : Ext} (hE : E 18 = none) (n : Nat) (x0 : Value) (H : Heap) : acall Tryd.prog gl E (n + 1) 18 [x0] H = f18 real (acall Tryd.prog gl E n) n x0 H :=
  (acall_eq (N := 25) Tryd.func18 (by kernel_rfl) (by kernel_rfl) hE (okgl f18_c (by kernel_rfl)) (by kernel_rfl)).trans (f18_main real _ n x0 H)

/-! incunable/incunableref29.number -/
noncomputable def f31_c : Code := (Tryd.f31.body).getD .skip

noncomputable def f31 (S : Seam (Value × Heap)) (C : CallF) (n : Nat) (x0 : Value) (x1 : Value) (H : Heap) : Option (Value × Heap) :=
 S.b (C 49 [x1] H) fun x9_1 H2 =>
 S.b (extr 0 x9_1 H2) fun x10_3 H4 =>
 S.b (extr 1 x9_1 H4) fun x11_5 H6 =>
 S.b (app 1 1 x0 x10_3 H6) fun x14_7 H8 =>
 some (x14_7, H8)

theorem f31_main (S : Seam (Value × Heap)) (C : CallF) (n : Nat) (x0 : Value) (x1 : Value) (H : Heap) : acodeK S Tryd.prog C n 15 f31_c (env0 [x0, x1]) H (fin Tryd.prog Tryd.f31) = f31 S C n x0 x1 H := by
  kernel_rfl


theorem f31_eq {gl : Bool} {E : Ext} (hE : E 31 = none) (n : Nat) (x0 : Value) (x1 : Value) (H : Heap) : acall Tryd.prog gl E (n + 1) 31 [x0, x1] H = f31 real (acall Tryd.prog gl E n) n x0 x1 H :=
  (acall_eq (N := 15) Tryd.func31 (by kernel_rfl) (by kernel_rfl) hE (okgl f31_c (by kernel_rfl)) (by kernel_rfl)).trans (f31_main real _ n x0 x1 H)

/-! incunable/incunableref29.text -/
noncomputable def f30_c : Code := (Tryd.f30.body).getD .skip

noncomputable def f30 (S : Seam (Value × Heap)) (C : CallF) (n : Nat) (x0 : Value) (x1 : Value) (H : Heap) : Option (Value × Heap) :=
 S.b (up (lenS x1) H) fun x7_1 H2 =>
 S.b (C 31 [x0, x7_1] H2) fun x8_3 H4 =>
 S.b (app 1 1 x8_3 x1 H4) fun x10_5 H6 =>
 some (x10_5, H6)

theorem f30_main (S : Seam (Value × Heap)) (C : CallF) (n : Nat) (x0 : Value) (x1 : Value) (H : Heap) : acodeK S Tryd.prog C n 11 f30_c (env0 [x0, x1]) H (fin Tryd.prog Tryd.f30) = f30 S C n x0 x1 H := by
  kernel_rfl


theorem f30_eq {gl : Bool} {E : Ext} (hE : E 30 = none) (n : Nat) (x0 : Value) (x1 : Value) (H : Heap) : acall Tryd.prog gl E (n + 1) 30 [x0, x1] H = f30 real (acall Tryd.prog gl E n) n x0 x1 H :=
  (acall_eq (N := 11) Tryd.func30 (by kernel_rfl) (by kernel_rfl) hE (okgl f30_c (by kernel_rfl)) (by kernel_rfl)).trans (f30_main real _ n x0 x1 H)

/-! incunable/incunableref29.Ask -/
noncomputable def f12_c : Code := (Tryd.f12.body).getD .skip

noncomputable def f12 (S : Seam (Value × Heap)) (C : CallF) (n : Nat) (x0 : Value) (H : Heap) : Option (Value × Heap) :=
 S.b (newV (Value.cells x0).toList H) fun x1_1 H2 =>
 S.b (ldA 3 x1_1 H2) fun x5_3 H4 =>
 S.b (C 15 [x5_3] H4) fun x6_5 H6 =>
 S.b (up (binB Tryd.prog .neq 26 x6_5 (.int .i64 0)) H6) fun x8_7 H8 =>
 S.i x8_7
 (some (.tuple #[(.slice none 0 0), x6_5], H8))
 (S.b (up (fAddr 0 x1_1) H8) fun x10_9 H10 =>
  S.c true (S.b (ldC x10_9 H10) fun x11_11 H12 =>
  S.b (C 31 [(.slice none 0 0), x11_11] H12) fun x12_13 H14 =>
  S.c true (S.b (up (fAddr 1 x1_1) H14) fun x13_15 H16 =>
   S.c ((sameBlk H12 H14 (blkOf x13_15)) && true) (S.b (ldC x13_15 H16) fun x14_17 H18 =>
   S.b (ofStr x14_17 H18) fun x15_19 H20 =>
   S.b (C 30 [x12_13, x15_19] H20) fun x16_21 H22 =>
   S.c true (S.b (up (fAddr 2 x1_1) H22) fun x17_23 H24 =>
    S.c ((sameBlk H20 H22 (blkOf x17_23)) && ((sameBlk H12 H14 (blkOf x17_23)) && true)) (S.b (ldC x17_23 H24) fun x18_25 H26 =>
    S.b (C 30 [x16_21, x18_25] H26) fun x19_27 H28 =>
    S.c true (some (.tuple #[x19_27, (.int .i64 0)], H28))))))))

theorem f12_main (S : Seam (Value × Heap)) (C : CallF) (n : Nat) (x0 : Value) (H : Heap) : acodeK S Tryd.prog C n 20 f12_c (env0 [x0]) H (fin Tryd.prog Tryd.f12) = f12 S C n x0 H := by
  kernel_rfl


theorem f12_eq {gl : Bool} {E : Ext} (hE : E 12 = none) (n : Nat) (x0 : Value) (H : Heap) : acall Tryd.prog gl E (n + 1) 12 [x0] H = f12 real (acall Tryd.prog gl E n) n x0 H :=
  (acall_eq (N := 20) Tryd.func12 (by kernel_rfl) (by kernel_rfl) hE (okgl f12_c (by kernel_rfl)) (by kernel_rfl)).trans (f12_main real _ n x0 H)

/-! incunable/incunableref29.Answer -/
noncomputable def f19_c : Code := (Tryd.f19.body).getD .skip

noncomputable def f19 (S : Seam (Value × Heap)) (C : CallF) (n : Nat) (x0 : Value) (H : Heap) : Option (Value × Heap) :=
 S.b (newV (Value.cells x0).toList H) fun x1_1 H2 =>
 S.b (ldA 5 x1_1 H2) fun x6_3 H4 =>
 S.b (C 21 [x6_3] H4) fun x7_5 H6 =>
 S.b (up (binB Tryd.prog .neq 26 x7_5 (.int .i64 0)) H6) fun x9_7 H8 =>
 S.i x9_7
 (some (.tuple #[(.slice none 0 0), x7_5], H8))
 (S.b (up (fAddr 0 x1_1) H8) fun x11_9 H10 =>
  S.c true (S.b (ldC x11_9 H10) fun x12_11 H12 =>
  S.b (C 31 [(.slice none 0 0), x12_11] H12) fun x13_13 H14 =>
  S.c true (S.b (up (fAddr 1 x1_1) H14) fun x14_15 H16 =>
   S.c ((sameBlk H12 H14 (blkOf x14_15)) && true) (S.b (ldC x14_15 H16) fun x15_17 H18 =>
   S.b (C 31 [x13_13, x15_17] H18) fun x16_19 H20 =>
   S.c true (S.b (up (fAddr 2 x1_1) H20) fun x17_21 H22 =>
    S.c ((sameBlk H18 H20 (blkOf x17_21)) && ((sameBlk H12 H14 (blkOf x17_21)) && true)) (S.b (ldC x17_21 H22) fun x18_23 H24 =>
    S.b (C 31 [x16_19, x18_23] H24) fun x19_25 H26 =>
    S.c true (S.b (up (fAddr 3 x1_1) H26) fun x21_27 H28 =>
     S.c true (S.b (ldC x21_27 H28) fun x22_29 H30 =>
     S.b (ofStr x22_29 H30) fun x23_31 H32 =>
     S.b (C 30 [x19_25, x23_31] H32) fun x24_33 H34 =>
     S.c true (S.b (up (fAddr 4 x1_1) H34) fun x25_35 H36 =>
      S.c ((sameBlk H32 H34 (blkOf x25_35)) && true) (S.b (ldC x25_35 H36) fun x26_37 H38 =>
      S.b (C 30 [x24_33, x26_37] H38) fun x27_39 H40 =>
      S.c true (some (.tuple #[x27_39, (.int .i64 0)], H40))))))))))))

theorem f19_main (S : Seam (Value × Heap)) (C : CallF) (n : Nat) (x0 : Value) (H : Heap) : acodeK S Tryd.prog C n 28 f19_c (env0 [x0]) H (fin Tryd.prog Tryd.f19) = f19 S C n x0 H := by
  kernel_rfl


theorem f19_eq {gl : Bool} {E : Ext} (hE : E 19 = none) (n : Nat) (x0 : Value) (H : Heap) : acall Tryd.prog gl E (n + 1) 19 [x0] H = f19 real (acall Tryd.prog gl E n) n x0 H :=
  (acall_eq (N := 28) Tryd.func19 (by kernel_rfl) (by kernel_rfl) hE (okgl f19_c (by kernel_rfl)) (by kernel_rfl)).trans (f19_main real _ n x0 H)

/-! incunable/incunableref00.CopyBytes -/
noncomputable def f10_c : Code := (Tryd.f10.body).getD .skip

noncomputable def f10 (S : Seam (Value × Heap)) (C : CallF) (n : Nat) (x0 : Value) (H : Heap) : Option (Value × Heap) :=
 S.b (app 1 1 (.slice none 0 0) x0 H) fun x6_1 H2 =>
 some (x6_1, H2)

theorem f10_main (S : Seam (Value × Heap)) (C : CallF) (n : Nat) (x0 : Value) (H : Heap) : acodeK S Tryd.prog C n 8 f10_c (env0 [x0]) H (fin Tryd.prog Tryd.f10) = f10 S C n x0 H := by
  kernel_rfl


theorem f10_eq {gl : Bool} {E : Ext} (hE : E 10 = none) (n : Nat) (x0 : Value) (H : Heap) : acall Tryd.prog gl E (n + 1) 10 [x0] H = f10 real (acall Tryd.prog gl E n) n x0 H :=
  (acall_eq (N := 8) Tryd.func10 (by kernel_rfl) (by kernel_rfl) hE (okgl f10_c (by kernel_rfl)) (by kernel_rfl)).trans (f10_main real _ n x0 H)

/-! incunable/incunableref00.EqBytes -/
noncomputable def f13_c : Code := (Tryd.f13.body).getD .skip

noncomputable def f13_L0 (S : Seam (Value × Heap)) (C : CallF) (n : Nat) : Nat → Value → Value → Value → Heap → Option (Value × Heap)
 | 0, _, _, _, _ => none
 | m + 1, x0_7, x1_8, x5_9, H10 =>
   S.b (up (lenS x0_7) H10) fun x13_11 H12 =>
   S.b (up (binB Tryd.prog .lss 3 x5_9 x13_11) H12) fun x14_13 H14 =>
   S.i x14_13
   (S.b (up (iAddrS 1 x0_7 x5_9) H14) fun x19_15 H16 =>
    S.c true (S.b (ldC x19_15 H16) fun x20_17 H18 =>
    S.b (up (iAddrS 1 x1_8 x5_9) H18) fun x23_19 H20 =>
    S.c true (S.b (ldC x23_19 H20) fun x24_21 H22 =>
    S.b (up (binB Tryd.prog .neq 5 x20_17 x24_21) H22) fun x25_23 H24 =>
    S.i x25_23
    (some ((.bool false), H24))
    (S.b (up (binB Tryd.prog .add 3 x5_9 (.int .i64 1)) H24) fun x16_25 H26 =>
     f13_L0 S C n m x0_7 x1_8 x16_25 H26))))
   (some ((.bool true), H14))

theorem f13_L0_eq (S : Seam (Value × Heap)) (C : CallF) (n : Nat) : ∀ (m : Nat) (env : Env) (H : Heap), aloopK (acodeK S Tryd.prog C n 26 (cAt f13_c [1, 1, 0, 1, 0, 0])) m env H (kAt S Tryd.prog C n 26 f13_c [1, 1, 0, 1, 0] (fin Tryd.prog Tryd.f13)) = f13_L0 S C n m (env 0) (env 1) (env 5) H := by
  intro m env H
  refine aloopK_eq (L := fun m env H => f13_L0 S C n m (env 0) (env 1) (env 5) H) (fun env H => rfl) (fun m env H => ?_) m env H
  kernel_rfl


noncomputable def f13 (S : Seam (Value × Heap)) (C : CallF) (n : Nat) (x0 : Value) (x1 : Value) (H : Heap) : Option (Value × Heap) :=
 S.b (up (lenS x0) H) fun x7_1 H2 =>
 S.b (up (lenS x1) H2) fun x9_3 H4 =>
 S.b (up (binB Tryd.prog .neq 3 x7_1 x9_3) H4) fun x10_5 H6 =>
 S.i x10_5
 (some ((.bool false), H6))
 (f13_L0 S C n n x0 x1 (.int .i64 0) H6)

noncomputable def f13G (S : Seam (Value × Heap)) (C : CallF) (n : Nat) (P0 : Env → Heap → Option (Value × Heap)) (x0 : Value) (x1 : Value) (H : Heap) : Option (Value × Heap) :=
 S.b (up (lenS x0) H) fun x7_27 H28 =>
 S.b (up (lenS x1) H28) fun x9_29 H30 =>
 S.b (up (binB Tryd.prog .neq 3 x7_27 x9_29) H30) fun x10_31 H32 =>
 S.i x10_31
 (some ((.bool false), H32))
 (P0 (putE 26 (putE 26 (putE 26 (putE 26 (putE 26 (putE 26 (putE 26 (env0 [x0, x1]) (some 4) (.bool false)) (some 6) x0) (some 7) x7_27) (some 8) x1) (some 9) x9_29) (some 10) x10_31) (some 5) (.int .i64 0)) H32)

theorem f13_main (S : Seam (Value × Heap)) (C : CallF) (n : Nat) (x0 : Value) (x1 : Value) (H : Heap) : acodeK S Tryd.prog C n 26 f13_c (env0 [x0, x1]) H (fin Tryd.prog Tryd.f13) = f13 S C n x0 x1 H := by
  have h1 : acodeK S Tryd.prog C n 26 f13_c (env0 [x0, x1]) H (fin Tryd.prog Tryd.f13) = f13G S C n (fun env H => aloopK (acodeK S Tryd.prog C n 26 (cAt f13_c [1, 1, 0, 1, 0, 0])) n env H (kAt S Tryd.prog C n 26 f13_c [1, 1, 0, 1, 0] (fin Tryd.prog Tryd.f13))) x0 x1 H := by kernel_rfl
  have e0 : (fun env H => aloopK (acodeK S Tryd.prog C n 26 (cAt f13_c [1, 1, 0, 1, 0, 0])) n env H (kAt S Tryd.prog C n 26 f13_c [1, 1, 0, 1, 0] (fin Tryd.prog Tryd.f13))) = (fun env H => f13_L0 S C n n (env 0) (env 1) (env 5) H) := by funext env H; exact f13_L0_eq S C n n env H
  rw [e0] at h1
  exact h1.trans (by kernel_rfl)


theorem f13_eq {gl : Bool} {E : Ext} (hE : E 13 = none) (n : Nat) (x0 : Value) (x1 : Value) (H : Heap) : acall Tryd.prog gl E (n + 1) 13 [x0, x1] H = f13 real (acall Tryd.prog gl E n) n x0 x1 H :=
  (acall_eq (N := 26) Tryd.func13 (by kernel_rfl) (by kernel_rfl) hE (okgl f13_c (by kernel_rfl)) (by kernel_rfl)).trans (f13_main real _ n x0 x1 H)

/-! incunable/incunableref29.SameAsk -/
noncomputable def f16_c : Code := (Tryd.f16.body).getD .skip

noncomputable def f16 (S : Seam (Value × Heap)) (C : CallF) (n : Nat) (x0 : Value) (x1 : Value) (H : Heap) : Option (Value × Heap) :=
 S.b (newV (Value.cells x0).toList H) fun x2_1 H2 =>
 S.b (newV (Value.cells x1).toList H2) fun x3_3 H4 =>
 S.b (up (fAddr 0 x2_1) H4) fun x5_5 H6 =>
 S.b (ldC x5_5 H6) fun x6_7 H8 =>
 S.b (up (fAddr 0 x3_3) H8) fun x7_9 H10 =>
 S.b (ldC x7_9 H10) fun x8_11 H12 =>
 S.b (up (binB Tryd.prog .eql 3 x6_7 x8_11) H12) fun x9_13 H14 =>
 S.b (gd (wd x9_13 true) (up (fAddr 1 x2_1) H14) H14) fun x11_15 H16 =>
 S.b (gd (wd x9_13 true) (ldC x11_15 H16) H16) fun x12_17 H18 =>
 S.b (gd (wd x9_13 true) (up (fAddr 1 x3_3) H18) H18) fun x13_19 H20 =>
 S.b (gd (wd x9_13 true) (ldC x13_19 H20) H20) fun x14_21 H22 =>
 S.b (gd (wd x9_13 true) (up (binB Tryd.prog .eql 9 x12_17 x14_21) H22) H22) fun x15_23 H24 =>
 S.b (pickV x9_13 x15_23 (.bool false) H24) fun x16_25 H26 =>
 S.b (gd (wd x16_25 true) (up (fAddr 2 x2_1) H26) H26) fun x18_27 H28 =>
 S.b (gd (wd x16_25 true) (ldC x18_27 H28) H28) fun x19_29 H30 =>
 S.b (gd (wd x16_25 true) (toStr x19_29 H30) H30) fun x20_31 H32 =>
 S.b (gd (wd x16_25 true) (up (fAddr 2 x3_3) H32) H32) fun x21_33 H34 =>
 S.b (gd (wd x16_25 true) (ldC x21_33 H34) H34) fun x22_35 H36 =>
 S.b (gd (wd x16_25 true) (toStr x22_35 H36) H36) fun x23_37 H38 =>
 S.b (gd (wd x16_25 true) (up (binB Tryd.prog .eql 9 x20_31 x23_37) H38) H38) fun x24_39 H40 =>
 S.b (pickV x16_25 x24_39 (.bool false) H40) fun x25_41 H42 =>
 some (x25_41, H42)

theorem f16_main (S : Seam (Value × Heap)) (C : CallF) (n : Nat) (x0 : Value) (x1 : Value) (H : Heap) : acodeK S Tryd.prog C n 26 f16_c (env0 [x0, x1]) H (fin Tryd.prog Tryd.f16) = f16 S C n x0 x1 H := by
  kernel_rfl


theorem f16_eq {gl : Bool} {E : Ext} (hE : E 16 = none) (n : Nat) (x0 : Value) (x1 : Value) (H : Heap) : acall Tryd.prog gl E (n + 1) 16 [x0, x1] H = f16 real (acall Tryd.prog gl E n) n x0 x1 H :=
  (acall_eq (N := 26) Tryd.func16 (by kernel_rfl) (by kernel_rfl) hE (okgl f16_c (by kernel_rfl)) (by kernel_rfl)).trans (f16_main real _ n x0 x1 H)

/-! incunable/incunableref29.SameAnswer -/
noncomputable def f22_c : Code := (Tryd.f22.body).getD .skip

noncomputable def f22 (S : Seam (Value × Heap)) (C : CallF) (n : Nat) (x0 : Value) (x1 : Value) (H : Heap) : Option (Value × Heap) :=
 S.b (newV (Value.cells x0).toList H) fun x2_1 H2 =>
 S.b (newV (Value.cells x1).toList H2) fun x3_3 H4 =>
 S.b (up (fAddr 0 x2_1) H4) fun x5_5 H6 =>
 S.b (ldC x5_5 H6) fun x6_7 H8 =>
 S.b (up (fAddr 0 x3_3) H8) fun x7_9 H10 =>
 S.b (ldC x7_9 H10) fun x8_11 H12 =>
 S.b (up (binB Tryd.prog .eql 3 x6_7 x8_11) H12) fun x9_13 H14 =>
 S.b (gd (wd x9_13 true) (up (fAddr 1 x2_1) H14) H14) fun x11_15 H16 =>
 S.b (gd (wd x9_13 true) (ldC x11_15 H16) H16) fun x12_17 H18 =>
 S.b (gd (wd x9_13 true) (up (fAddr 1 x3_3) H18) H18) fun x13_19 H20 =>
 S.b (gd (wd x9_13 true) (ldC x13_19 H20) H20) fun x14_21 H22 =>
 S.b (gd (wd x9_13 true) (up (binB Tryd.prog .eql 26 x12_17 x14_21) H22) H22) fun x15_23 H24 =>
 S.b (pickV x9_13 x15_23 (.bool false) H24) fun x16_25 H26 =>
 S.b (gd (wd x16_25 true) (up (fAddr 2 x2_1) H26) H26) fun x18_27 H28 =>
 S.b (gd (wd x16_25 true) (ldC x18_27 H28) H28) fun x19_29 H30 =>
 S.b (gd (wd x16_25 true) (up (fAddr 2 x3_3) H30) H30) fun x20_31 H32 =>
 S.b (gd (wd x16_25 true) (ldC x20_31 H32) H32) fun x21_33 H34 =>
 S.b (gd (wd x16_25 true) (up (binB Tryd.prog .eql 3 x19_29 x21_33) H34) H34) fun x22_35 H36 =>
 S.b (pickV x16_25 x22_35 (.bool false) H36) fun x23_37 H38 =>
 S.b (gd (wd x23_37 true) (up (fAddr 3 x2_1) H38) H38) fun x25_39 H40 =>
 S.b (gd (wd x23_37 true) (ldC x25_39 H40) H40) fun x26_41 H42 =>
 S.b (gd (wd x23_37 true) (up (fAddr 3 x3_3) H42) H42) fun x27_43 H44 =>
 S.b (gd (wd x23_37 true) (ldC x27_43 H44) H44) fun x28_45 H46 =>
 S.b (gd (wd x23_37 true) (up (binB Tryd.prog .eql 9 x26_41 x28_45) H46) H46) fun x29_47 H48 =>
 S.b (pickV x23_37 x29_47 (.bool false) H48) fun x30_49 H50 =>
 S.b (gd (wd x30_49 true) (up (fAddr 4 x2_1) H50) H50) fun x32_51 H52 =>
 S.b (gd (wd x30_49 true) (ldC x32_51 H52) H52) fun x33_53 H54 =>
 S.b (gd (wd x30_49 true) (toStr x33_53 H54) H54) fun x34_55 H56 =>
 S.b (gd (wd x30_49 true) (up (fAddr 4 x3_3) H56) H56) fun x35_57 H58 =>
 S.b (gd (wd x30_49 true) (ldC x35_57 H58) H58) fun x36_59 H60 =>
 S.b (gd (wd x30_49 true) (toStr x36_59 H60) H60) fun x37_61 H62 =>
 S.b (gd (wd x30_49 true) (up (binB Tryd.prog .eql 9 x34_55 x37_61) H62) H62) fun x38_63 H64 =>
 S.b (pickV x30_49 x38_63 (.bool false) H64) fun x39_65 H66 =>
 some (x39_65, H66)

theorem f22_main (S : Seam (Value × Heap)) (C : CallF) (n : Nat) (x0 : Value) (x1 : Value) (H : Heap) : acodeK S Tryd.prog C n 40 f22_c (env0 [x0, x1]) H (fin Tryd.prog Tryd.f22) = f22 S C n x0 x1 H := by
  kernel_rfl


theorem f22_eq {gl : Bool} {E : Ext} (hE : E 22 = none) (n : Nat) (x0 : Value) (x1 : Value) (H : Heap) : acall Tryd.prog gl E (n + 1) 22 [x0, x1] H = f22 real (acall Tryd.prog gl E n) n x0 x1 H :=
  (acall_eq (N := 40) Tryd.func22 (by kernel_rfl) (by kernel_rfl) hE (okgl f22_c (by kernel_rfl)) (by kernel_rfl)).trans (f22_main real _ n x0 x1 H)

/-! incunable/talk.take[int] -/
noncomputable def f51_c : Code := (Tryd.f51.body).getD .skip

noncomputable def f51 (S : Seam (Value × Heap)) (C : CallF) (n : Nat) (x0 : Value) (x1 : Value) (H : Heap) : Option (Value × Heap) :=
 S.b (nilC x0 H) fun x8_1 H2 =>
 S.b (up (fAddr 1 x8_1) H2) fun x9_3 H4 =>
 S.b (ldC x9_3 H4) fun x10_5 H6 =>
 S.i x10_5
 (some ((.int .i64 0), H6))
 (S.b (nilC x0 H6) fun x15_7 H8 =>
  S.b (up (fAddr 0 x15_7) H8) fun x16_9 H10 =>
  S.b (ldC x16_9 H10) fun x17_11 H12 =>
  S.b (callV C x1 [x17_11] H12) fun x18_13 H14 =>
  S.b (extr 0 x18_13 H14) fun x19_15 H16 =>
  S.b (extr 1 x18_13 H16) fun x20_17 H18 =>
  S.b (extr 2 x18_13 H18) fun x21_19 H20 =>
  S.b (up (binB Tryd.prog .neq 26 x21_19 (.int .i64 0)) H20) fun x26_21 H22 =>
  S.b (nilC x0 H22) fun x27_23 H24 =>
  S.b (up (fAddr 0 x27_23) H24) fun x28_25 H26 =>
  S.b (stV 1 x28_25 x20_17 H26) fun _ H27 =>
  S.b (nilC x0 H27) fun x29_28 H29 =>
  S.b (up (fAddr 1 x29_28) H29) fun x30_30 H31 =>
  S.b (stV 1 x30_30 x26_21 H31) fun _ H32 =>
  some (x19_15, H32))

theorem f51_main (S : Seam (Value × Heap)) (C : CallF) (n : Nat) (x0 : Value) (x1 : Value) (H : Heap) : acodeK S Tryd.prog C n 32 f51_c (env0 [x0, x1]) H (fin Tryd.prog Tryd.f51) = f51 S C n x0 x1 H := by
  kernel_rfl


theorem f51_eq {gl : Bool} {E : Ext} (hE : E 51 = none) (n : Nat) (x0 : Value) (x1 : Value) (H : Heap) : acall Tryd.prog gl E (n + 1) 51 [x0, x1] H = f51 real (acall Tryd.prog gl E n) n x0 x1 H :=
  (acall_eq (N := 32) Tryd.func51 (by kernel_rfl) (by kernel_rfl) hE (okgl f51_c (by kernel_rfl)) (by kernel_rfl)).trans (f51_main real _ n x0 x1 H)

/-! incunable/talk.take[[]byte] -/
noncomputable def f54_c : Code := (Tryd.f54.body).getD .skip

noncomputable def f54 (S : Seam (Value × Heap)) (C : CallF) (n : Nat) (x0 : Value) (x1 : Value) (H : Heap) : Option (Value × Heap) :=
 S.b (nilC x0 H) fun x8_1 H2 =>
 S.b (up (fAddr 1 x8_1) H2) fun x9_3 H4 =>
 S.b (ldC x9_3 H4) fun x10_5 H6 =>
 S.i x10_5
 (some ((.slice none 0 0), H6))
 (S.b (nilC x0 H6) fun x15_7 H8 =>
  S.b (up (fAddr 0 x15_7) H8) fun x16_9 H10 =>
  S.b (ldC x16_9 H10) fun x17_11 H12 =>
  S.b (callV C x1 [x17_11] H12) fun x18_13 H14 =>
  S.b (extr 0 x18_13 H14) fun x19_15 H16 =>
  S.b (extr 1 x18_13 H16) fun x20_17 H18 =>
  S.b (extr 2 x18_13 H18) fun x21_19 H20 =>
  S.b (up (binB Tryd.prog .neq 26 x21_19 (.int .i64 0)) H20) fun x26_21 H22 =>
  S.b (nilC x0 H22) fun x27_23 H24 =>
  S.b (up (fAddr 0 x27_23) H24) fun x28_25 H26 =>
  S.b (stV 1 x28_25 x20_17 H26) fun _ H27 =>
  S.b (nilC x0 H27) fun x29_28 H29 =>
  S.b (up (fAddr 1 x29_28) H29) fun x30_30 H31 =>
  S.b (stV 1 x30_30 x26_21 H31) fun _ H32 =>
  some (x19_15, H32))

theorem f54_main (S : Seam (Value × Heap)) (C : CallF) (n : Nat) (x0 : Value) (x1 : Value) (H : Heap) : acodeK S Tryd.prog C n 32 f54_c (env0 [x0, x1]) H (fin Tryd.prog Tryd.f54) = f54 S C n x0 x1 H := by
  kernel_rfl


theorem f54_eq {gl : Bool} {E : Ext} (hE : E 54 = none) (n : Nat) (x0 : Value) (x1 : Value) (H : Heap) : acall Tryd.prog gl E (n + 1) 54 [x0, x1] H = f54 real (acall Tryd.prog gl E n) n x0 x1 H :=
  (acall_eq (N := 32) Tryd.func54 (by kernel_rfl) (by kernel_rfl) hE (okgl f54_c (by kernel_rfl)) (by kernel_rfl)).trans (f54_main real _ n x0 x1 H)

/-! (*incunable/talk.taker).text$1 -/
noncomputable def f55_c : Code := (Tryd.f55.body).getD .skip

noncomputable def f55 (S : Seam (Value × Heap)) (C : CallF) (n : Nat) (x0 : Value) (x1 : Value) (H : Heap) : Option (Value × Heap) :=
 S.b (ldC x1 H) fun x7_1 H2 =>
 S.b (C 56 [x0, x7_1] H2) fun x8_3 H4 =>
 S.b (extr 0 x8_3 H4) fun x9_5 H6 =>
 S.b (extr 1 x8_3 H6) fun x10_7 H8 =>
 S.b (extr 2 x8_3 H8) fun x11_9 H10 =>
 some (.tuple #[x9_5, x10_7, x11_9], H10)

theorem f55_main (S : Seam (Value × Heap)) (C : CallF) (n : Nat) (x0 : Value) (x1 : Value) (H : Heap) : acodeK S Tryd.prog C n 12 f55_c (env0 [x0, x1]) H (fin Tryd.prog Tryd.f55) = f55 S C n x0 x1 H := by
  kernel_rfl


theorem f55_eq {gl : Bool} {E : Ext} (hE : E 55 = none) (n : Nat) (x0 : Value) (x1 : Value) (H : Heap) : acall Tryd.prog gl E (n + 1) 55 [x0, x1] H = f55 real (acall Tryd.prog gl E n) n x0 x1 H :=
  (acall_eq (N := 12) Tryd.func55 (by kernel_rfl) (by kernel_rfl) hE (okgl f55_c (by kernel_rfl)) (by kernel_rfl)).trans (f55_main real _ n x0 x1 H)

/-! (*incunable/talk.taker).number -/
noncomputable def f35_c : Code := (Tryd.f35.body).getD .skip

noncomputable def f35 (S : Seam (Value × Heap)) (C : CallF) (n : Nat) (x0 : Value) (H : Heap) : Option (Value × Heap) :=
 S.b (C 51 [x0, (.func (.func 52) #[] #[])] H) fun x4_1 H2 =>
 some (x4_1, H2)

theorem f35_main (S : Seam (Value × Heap)) (C : CallF) (n : Nat) (x0 : Value) (H : Heap) : acodeK S Tryd.prog C n 5 f35_c (env0 [x0]) H (fin Tryd.prog Tryd.f35) = f35 S C n x0 H := by
  kernel_rfl


theorem f35_eq {gl : Bool} {E : Ext} (hE : E 35 = none) (n : Nat) (x0 : Value) (H : Heap) : acall Tryd.prog gl E (n + 1) 35 [x0] H = f35 real (acall Tryd.prog gl E n) n x0 H :=
  (acall_eq (N := 5) Tryd.func35 (by kernel_rfl) (by kernel_rfl) hE (okgl f35_c (by kernel_rfl)) (by kernel_rfl)).trans (f35_main real _ n x0 H)

/-! (*incunable/talk.taker).text -/
noncomputable def f36_c : Code := (Tryd.f36.body).getD .skip

noncomputable def f36 (S : Seam (Value × Heap)) (C : CallF) (n : Nat) (x0 : Value) (x1 : Value) (H : Heap) : Option (Value × Heap) :=
 S.b (newV (Value.cells x1).toList H) fun x3_1 H2 =>
 S.b (some (.func (.func 55) #[] #[x3_1], H2)) fun x6_3 H4 =>
 S.b (C 54 [x0, x6_3] H4) fun x7_5 H6 =>
 S.b (C 53 [x7_5] H6) fun x8_7 H8 =>
 some (x8_7, H8)

theorem f36_main (S : Seam (Value × Heap)) (C : CallF) (n : Nat) (x0 : Value) (x1 : Value) (H : Heap) : acodeK S Tryd.prog C n 9 f36_c (env0 [x0, x1]) H (fin Tryd.prog Tryd.f36) = f36 S C n x0 x1 H := by
  kernel_rfl


theorem f36_eq {gl : Bool} {E : Ext} (hE : E 36 = none) (n : Nat) (x0 : Value) (x1 : Value) (H : Heap) : acall Tryd.prog gl E (n + 1) 36 [x0, x1] H = f36 real (acall Tryd.prog gl E n) n x0 x1 H :=
  (acall_eq (N := 9) Tryd.func36 (by kernel_rfl) (by kernel_rfl) hE (okgl f36_c (by kernel_rfl)) (by kernel_rfl)).trans (f36_main real _ n x0 x1 H)

/-! (*incunable/talk.taker).ends -/
noncomputable def f37_c : Code := (Tryd.f37.body).getD .skip

noncomputable def f37 (S : Seam (Value × Heap)) (C : CallF) (n : Nat) (x0 : Value) (H : Heap) : Option (Value × Heap) :=
 S.b (nilC x0 H) fun x4_1 H2 =>
 S.b (up (fAddr 1 x4_1) H2) fun x5_3 H4 =>
 S.b (ldC x5_3 H4) fun x6_5 H6 =>
 S.b (up (unB .not x6_5) H6) fun x7_7 H8 =>
 S.b (gd (wd x7_7 true) (some (x0, H8)) H8) fun x9_9 H10 =>
 S.b (gd (wd x7_7 true) (nilC x9_9 H10) H10) fun x10_11 H12 =>
 S.b (gd (wd x7_7 true) (up (fAddr 0 x10_11) H12) H12) fun x11_13 H14 =>
 S.b (gd (wd x7_7 true) (ldC x11_13 H14) H14) fun x12_15 H16 =>
 S.b (gd (wd x7_7 true) (up (lenS x12_15) H16) H16) fun x13_17 H18 =>
 S.b (gd (wd x7_7 true) (up (binB Tryd.prog .eql 3 x13_17 (.int .i64 0)) H18) H18) fun x14_19 H20 =>
 S.b (pickV x7_7 x14_19 (.bool false) H20) fun x15_21 H22 =>
 some (x15_21, H22)

theorem f37_main (S : Seam (Value × Heap)) (C : CallF) (n : Nat) (x0 : Value) (H : Heap) : acodeK S Tryd.prog C n 16 f37_c (env0 [x0]) H (fin Tryd.prog Tryd.f37) = f37 S C n x0 H := by
  kernel_rfl


theorem f37_eq {gl : Bool} {E : Ext} (hE : E 37 = none) (n : Nat) (x0 : Value) (H : Heap) : acall Tryd.prog gl E (n + 1) 37 [x0] H = f37 real (acall Tryd.prog gl E n) n x0 H :=
  (acall_eq (N := 16) Tryd.func37 (by kernel_rfl) (by kernel_rfl) hE (okgl f37_c (by kernel_rfl)) (by kernel_rfl)).trans (f37_main real _ n x0 H)

/-! (*incunable/incunableref29.taker).number -/
noncomputable def f38_c : Code := (Tryd.f38.body).getD .skip

noncomputable def f38 (S : Seam (Value × Heap)) (C : CallF) (n : Nat) (x0 : Value) (H : Heap) : Option (Value × Heap) :=
 S.b (nilC x0 H) fun x8_1 H2 =>
 S.b (up (fAddr 0 x8_1) H2) fun x9_3 H4 =>
 S.b (ldC x9_3 H4) fun x10_5 H6 =>
 S.b (C 57 [x10_5] H6) fun x11_7 H8 =>
 S.b (extr 0 x11_7 H8) fun x12_9 H10 =>
 S.b (extr 1 x11_7 H10) fun x13_11 H12 =>
 S.b (extr 2 x11_7 H12) fun x14_13 H14 =>
 S.b (nilC x0 H14) fun x16_15 H16 =>
 S.b (up (fAddr 1 x16_15) H16) fun x17_17 H18 =>
 S.b (ldC x17_17 H18) fun x18_19 H20 =>
 S.b (gd (wd x18_19 false) (some (x14_13, H20)) H20) fun x20_21 H22 =>
 S.b (gd (wd x18_19 false) (up (binB Tryd.prog .neq 26 x20_21 (.int .i64 0)) H22) H22) fun x21_23 H24 =>
 S.b (pickV x18_19 (.bool true) x21_23 H24) fun x22_25 H26 =>
 S.i x22_25
 (S.b (nilC x0 H26) fun x24_27 H28 =>
  S.b (up (fAddr 1 x24_27) H28) fun x25_29 H30 =>
  S.b (stV 1 x25_29 (.bool true) H30) fun _ H31 =>
  some ((.int .i64 0), H31))
 (S.b (nilC x0 H26) fun x28_32 H33 =>
  S.b (up (fAddr 0 x28_32) H33) fun x29_34 H35 =>
  S.b (stV 1 x29_34 x13_11 H35) fun _ H36 =>
  some (x12_9, H36))

theorem f38_main (S : Seam (Value × Heap)) (C : CallF) (n : Nat) (x0 : Value) (H : Heap) : acodeK S Tryd.prog C n 31 f38_c (env0 [x0]) H (fin Tryd.prog Tryd.f38) = f38 S C n x0 H := by
  kernel_rfl


theorem f38_eq {gl : Bool} {E : Ext} (hE : E 38 = none) (n : Nat) (x0 : Value) (H : Heap) : acall Tryd.prog gl E (n + 1) 38 [x0] H = f38 real (acall Tryd.prog gl E n) n x0 H :=
  (acall_eq (N := 31) Tryd.func38 (by kernel_rfl) (by kernel_rfl) hE (okgl f38_c (by kernel_rfl)) (by kernel_rfl)).trans (f38_main real _ n x0 H)

/-! (*incunable/incunableref29.taker).text -/
noncomputable def f39_c : Code := (Tryd.f39.body).getD .skip

noncomputable def f39 (S : Seam (Value × Heap)) (C : CallF) (n : Nat) (x0 : Value) (x1 : Value) (H : Heap) : Option (Value × Heap) :=
 S.b (nilC x0 H) fun x11_1 H2 =>
 S.b (up (fAddr 0 x11_1) H2) fun x12_3 H4 =>
 S.b (ldC x12_3 H4) fun x13_5 H6 =>
 S.b (C 58 [x13_5, x1] H6) fun x15_7 H8 =>
 S.b (extr 0 x15_7 H8) fun x16_9 H10 =>
 S.b (extr 1 x15_7 H10) fun x17_11 H12 =>
 S.b (extr 2 x15_7 H12) fun x18_13 H14 =>
 S.b (nilC x0 H14) fun x20_15 H16 =>
 S.b (up (fAddr 1 x20_15) H16) fun x21_17 H18 =>
 S.b (ldC x21_17 H18) fun x22_19 H20 =>
 S.b (gd (wd x22_19 false) (some (x18_13, H20)) H20) fun x24_21 H22 =>
 S.b (gd (wd x22_19 false) (up (binB Tryd.prog .neq 26 x24_21 (.int .i64 0)) H22) H22) fun x25_23 H24 =>
 S.b (pickV x22_19 (.bool true) x25_23 H24) fun x26_25 H26 =>
 S.i x26_25
 (S.b (nilC x0 H26) fun x28_27 H28 =>
  S.b (up (fAddr 1 x28_27) H28) fun x29_29 H30 =>
  S.b (stV 1 x29_29 (.bool true) H30) fun _ H31 =>
  some ((.slice none 0 0), H31))
 (S.b (nilC x0 H26) fun x32_32 H33 =>
  S.b (up (fAddr 0 x32_32) H33) fun x33_34 H35 =>
  S.b (stV 1 x33_34 x17_11 H35) fun _ H36 =>
  S.b (app 1 1 (.slice none 0 0) x16_9 H36) fun x36_37 H38 =>
  some (x36_37, H38))

theorem f39_main (S : Seam (Value × Heap)) (C : CallF) (n : Nat) (x0 : Value) (x1 : Value) (H : Heap) : acodeK S Tryd.prog C n 37 f39_c (env0 [x0, x1]) H (fin Tryd.prog Tryd.f39) = f39 S C n x0 x1 H := by
  kernel_rfl


theorem f39_eq {gl : Bool} {E : Ext} (hE : E 39 = none) (n : Nat) (x0 : Value) (x1 : Value) (H : Heap) : acall Tryd.prog gl E (n + 1) 39 [x0, x1] H = f39 real (acall Tryd.prog gl E n) n x0 x1 H :=
  (acall_eq (N := 37) Tryd.func39 (by kernel_rfl) (by kernel_rfl) hE (okgl f39_c (by kernel_rfl)) (by kernel_rfl)).trans (f39_main real _ n x0 x1 H)

/-! incunable/talk.Asked -/
noncomputable def f23_c : Code := (Tryd.f23.body).getD .skip

noncomputable def f23 (S : Seam (Value × Heap)) (C : CallF) (n : Nat) (x0 : Value) (H : Heap) : Option (Value × Heap) :=
 S.b (newV [(.int .i64 0), (.string ⟨#[]⟩), (.slice none 0 0)] H) fun x2_1 H2 =>
 S.b (bld [(.slice none 0 0), (.bool false)] [(0, 1, x0)] H2) fun x7_3 H4 =>
 S.b (newV (Value.cells x7_3).toList H4) fun x8_5 H6 =>
 S.b (C 35 [x8_5] H6) fun x10_7 H8 =>
 S.c true (S.b (C 36 [x8_5, (.int .i64 32)] H8) fun x12_9 H10 =>
  S.c true (S.c true (S.b (toStr x12_9 H10) fun x13_11 H12 =>
   S.b (C 36 [x8_5, (.int .i64 8192)] H12) fun x15_13 H14 =>
   S.c (sameBlk H12 H14 (blkOf x12_9) && true) (S.b (bld [(.int .i64 0), (.string ⟨#[]⟩), (.slice none 0 0)] [(0, 1, x10_7), (1, 1, x13_11), (2, 1, x15_13)] H14) fun x16_15 H16 =>
    S.b (newV [(.int .i64 0), (.string ⟨#[]⟩), (.slice none 0 0)] H16) fun x5_17 H18 =>
    S.b (stV 3 x5_17 x16_15 H18) fun _ H19 =>
    S.c true (S.b (C 37 [x8_5] H19) fun x18_20 H21 =>
     S.b (up (unB .not x18_20) H21) fun x19_22 H23 =>
     S.b (gd (wd x19_22 false) (ldA 3 x5_17 H23) H23) fun x21_24 H25 =>
     S.b (gd (wd x19_22 false) (C 14 [x21_24] H25) H25) fun x22_26 H27 =>
     S.b (gd (wd x19_22 false) (up (binB Tryd.prog .neq 26 x22_26 (.int .i64 0)) H27) H27) fun x23_28 H29 =>
     S.b (pickV x19_22 (.bool true) x23_28 H29) fun x24_30 H31 =>
     S.i x24_30
     (S.b (bld [(.int .i64 0), (.string ⟨#[]⟩), (.slice none 0 0)] [] H31) fun x25_32 H33 =>
      S.b (stV 3 x2_1 x25_32 H33) fun _ H34 =>
      (resM [(ldA 3 x2_1 H34).map (·.1), some (.int .i64 290)]).map fun l => (one l, H34))
     (S.b (ldA 3 x5_17 H31) fun x26_35 H36 =>
      S.b (stV 3 x2_1 x26_35 H36) fun _ H37 =>
      (resM [(ldA 3 x2_1 H37).map (·.1), some (.int .i64 0)]).map fun l => (one l, H37)))))))

theorem f23_main (S : Seam (Value × Heap)) (C : CallF) (n : Nat) (x0 : Value) (H : Heap) : acodeK S Tryd.prog C n 27 f23_c (env0 [x0]) H (fin Tryd.prog Tryd.f23) = f23 S C n x0 H := by
  kernel_rfl


theorem f23_eq {gl : Bool} {E : Ext} (hE : E 23 = none) (n : Nat) (x0 : Value) (H : Heap) : acall Tryd.prog gl E (n + 1) 23 [x0] H = f23 real (acall Tryd.prog gl E n) n x0 H :=
  (acall_eq (N := 27) Tryd.func23 (by kernel_rfl) (by kernel_rfl) hE (okgl f23_c (by kernel_rfl)) (by kernel_rfl)).trans (f23_main real _ n x0 H)

/-! incunable/talk.Answered -/
noncomputable def f25_c : Code := (Tryd.f25.body).getD .skip

noncomputable def f25 (S : Seam (Value × Heap)) (C : CallF) (n : Nat) (x0 : Value) (H : Heap) : Option (Value × Heap) :=
 S.b (newV [(.int .i64 0), (.int .i64 0), (.int .i64 0), (.string ⟨#[]⟩), (.slice none 0 0)] H) fun x2_1 H2 =>
 S.b (bld [(.slice none 0 0), (.bool false)] [(0, 1, x0)] H2) fun x7_3 H4 =>
 S.b (newV (Value.cells x7_3).toList H4) fun x8_5 H6 =>
 S.b (C 35 [x8_5] H6) fun x10_7 H8 =>
 S.c true (S.b (C 35 [x8_5] H8) fun x12_9 H10 =>
  S.c true (S.b (C 35 [x8_5] H10) fun x14_11 H12 =>
   S.c true (S.b (C 36 [x8_5, (.int .i64 32)] H12) fun x16_13 H14 =>
    S.c true (S.c true (S.b (toStr x16_13 H14) fun x17_15 H16 =>
     S.b (C 36 [x8_5, (.int .i64 262144)] H16) fun x19_17 H18 =>
     S.c (sameBlk H16 H18 (blkOf x16_13) && true) (S.b (bld [(.int .i64 0), (.int .i64 0), (.int .i64 0), (.string ⟨#[]⟩), (.slice none 0 0)] [(0, 1, x10_7), (1, 1, x12_9), (2, 1, x14_11), (3, 1, x17_15), (4, 1, x19_17)] H18) fun x20_19 H20 =>
      S.b (newV [(.int .i64 0), (.int .i64 0), (.int .i64 0), (.string ⟨#[]⟩), (.slice none 0 0)] H20) fun x5_21 H22 =>
      S.b (stV 5 x5_21 x20_19 H22) fun _ H23 =>
      S.c true (S.b (C 37 [x8_5] H23) fun x22_24 H25 =>
       S.b (up (unB .not x22_24) H25) fun x23_26 H27 =>
       S.b (gd (wd x23_26 false) (ldA 5 x5_21 H27) H27) fun x25_28 H29 =>
       S.b (gd (wd x23_26 false) (C 20 [x25_28] H29) H29) fun x26_30 H31 =>
       S.b (gd (wd x23_26 false) (up (binB Tryd.prog .neq 26 x26_30 (.int .i64 0)) H31) H31) fun x27_32 H33 =>
       S.b (pickV x23_26 (.bool true) x27_32 H33) fun x28_34 H35 =>
       S.i x28_34
       (S.b (bld [(.int .i64 0), (.int .i64 0), (.int .i64 0), (.string ⟨#[]⟩), (.slice none 0 0)] [] H35) fun x29_36 H37 =>
        S.b (stV 5 x2_1 x29_36 H37) fun _ H38 =>
        (resM [(ldA 5 x2_1 H38).map (·.1), some (.int .i64 290)]).map fun l => (one l, H38))
       (S.b (ldA 5 x5_21 H35) fun x30_39 H40 =>
        S.b (stV 5 x2_1 x30_39 H40) fun _ H41 =>
        (resM [(ldA 5 x2_1 H41).map (·.1), some (.int .i64 0)]).map fun l => (one l, H41)))))))))

theorem f25_main (S : Seam (Value × Heap)) (C : CallF) (n : Nat) (x0 : Value) (H : Heap) : acodeK S Tryd.prog C n 31 f25_c (env0 [x0]) H (fin Tryd.prog Tryd.f25) = f25 S C n x0 H := by
  kernel_rfl


theorem f25_eq {gl : Bool} {E : Ext} (hE : E 25 = none) (n : Nat) (x0 : Value) (H : Heap) : acall Tryd.prog gl E (n + 1) 25 [x0] H = f25 real (acall Tryd.prog gl E n) n x0 H :=
  (acall_eq (N := 31) Tryd.func25 (by kernel_rfl) (by kernel_rfl) hE (okgl f25_c (by kernel_rfl)) (by kernel_rfl)).trans (f25_main real _ n x0 H)

/-! incunable/incunableref29.Asked -/
noncomputable def f24_c : Code := (Tryd.f24.body).getD .skip

noncomputable def f24 (S : Seam (Value × Heap)) (C : CallF) (n : Nat) (x0 : Value) (H : Heap) : Option (Value × Heap) :=
 S.b (newV [(.int .i64 0), (.string ⟨#[]⟩), (.slice none 0 0)] H) fun x2_1 H2 =>
 S.b (bld [(.slice none 0 0), (.bool false)] [(0, 1, x0)] H2) fun x7_3 H4 =>
 S.b (newV (Value.cells x7_3).toList H4) fun x8_5 H6 =>
 S.b (C 38 [x8_5] H6) fun x10_7 H8 =>
 S.b (bld [(.int .i64 0), (.string ⟨#[]⟩), (.slice none 0 0)] [(0, 1, x10_7)] H8) fun x11_9 H10 =>
 S.b (newV [(.int .i64 0), (.string ⟨#[]⟩), (.slice none 0 0)] H10) fun x5_11 H12 =>
 S.b (stV 3 x5_11 x11_9 H12) fun _ H13 =>
 S.b (C 39 [x8_5, (.int .i64 32)] H13) fun x13_14 H15 =>
 S.b (toStr x13_14 H15) fun x14_16 H17 =>
 S.b (up (fAddr 1 x5_11) H17) fun x15_18 H19 =>
 S.b (stV 1 x15_18 x14_16 H19) fun _ H20 =>
 S.b (C 39 [x8_5, (.int .i64 8192)] H20) fun x17_21 H22 =>
 S.b (up (fAddr 2 x5_11) H22) fun x18_23 H24 =>
 S.b (stV 1 x18_23 x17_21 H24) fun _ H25 =>
 S.b (nilC x8_5 H25) fun x20_26 H27 =>
 S.b (up (fAddr 1 x20_26) H27) fun x21_28 H29 =>
 S.b (ldC x21_28 H29) fun x22_30 H31 =>
 S.b (gd (wd x22_30 false) (some (x8_5, H31)) H31) fun x24_32 H33 =>
 S.b (gd (wd x22_30 false) (nilC x24_32 H33) H33) fun x25_34 H35 =>
 S.b (gd (wd x22_30 false) (up (fAddr 0 x25_34) H35) H35) fun x26_36 H37 =>
 S.b (gd (wd x22_30 false) (ldC x26_36 H37) H37) fun x27_38 H39 =>
 S.b (gd (wd x22_30 false) (up (lenS x27_38) H39) H39) fun x28_40 H41 =>
 S.b (gd (wd x22_30 false) (up (binB Tryd.prog .gtr 3 x28_40 (.int .i64 0)) H41) H41) fun x29_42 H43 =>
 S.b (pickV x22_30 (.bool true) x29_42 H43) fun x30_44 H45 =>
 S.b (gd (wd x30_44 false) (ldA 3 x5_11 H45) H45) fun x32_46 H47 =>
 S.b (gd (wd x30_44 false) (C 15 [x32_46] H47) H47) fun x33_48 H49 =>
 S.b (gd (wd x30_44 false) (up (binB Tryd.prog .neq 26 x33_48 (.int .i64 0)) H49) H49) fun x34_50 H51 =>
 S.b (pickV x30_44 (.bool true) x34_50 H51) fun x35_52 H53 =>
 S.i x35_52
 (S.b (bld [(.int .i64 0), (.string ⟨#[]⟩), (.slice none 0 0)] [] H53) fun x36_54 H55 =>
  S.b (stV 3 x2_1 x36_54 H55) fun _ H56 =>
  (resM [(ldA 3 x2_1 H56).map (·.1), some (.int .i64 290)]).map fun l => (one l, H56))
 (S.b (ldA 3 x5_11 H53) fun x37_57 H58 =>
  S.b (stV 3 x2_1 x37_57 H58) fun _ H59 =>
  (resM [(ldA 3 x2_1 H59).map (·.1), some (.int .i64 0)]).map fun l => (one l, H59))

theorem f24_main (S : Seam (Value × Heap)) (C : CallF) (n : Nat) (x0 : Value) (H : Heap) : acodeK S Tryd.prog C n 38 f24_c (env0 [x0]) H (fin Tryd.prog Tryd.f24) = f24 S C n x0 H := by
  kernel_rfl


theorem f24_eq {gl : Bool} {E : Ext} (hE : E 24 = none) (n : Nat) (x0 : Value) (H : Heap) : acall Tryd.prog gl E (n + 1) 24 [x0] H = f24 real (acall Tryd.prog gl E n) n x0 H :=
  (acall_eq (N := 38) Tryd.func24 (by kernel_rfl) (by kernel_rfl) hE (okgl f24_c (by kernel_rfl)) (by kernel_rfl)).trans (f24_main real _ n x0 H)

/-! incunable/incunableref29.Answered -/
noncomputable def f26_c : Code := (Tryd.f26.body).getD .skip

noncomputable def f26 (S : Seam (Value × Heap)) (C : CallF) (n : Nat) (x0 : Value) (H : Heap) : Option (Value × Heap) :=
 S.b (newV [(.int .i64 0), (.int .i64 0), (.int .i64 0), (.string ⟨#[]⟩), (.slice none 0 0)] H) fun x2_1 H2 =>
 S.b (bld [(.slice none 0 0), (.bool false)] [(0, 1, x0)] H2) fun x7_3 H4 =>
 S.b (newV (Value.cells x7_3).toList H4) fun x8_5 H6 =>
 S.b (C 38 [x8_5] H6) fun x10_7 H8 =>
 S.b (bld [(.int .i64 0), (.int .i64 0), (.int .i64 0), (.string ⟨#[]⟩), (.slice none 0 0)] [(0, 1, x10_7)] H8) fun x11_9 H10 =>
 S.b (newV [(.int .i64 0), (.int .i64 0), (.int .i64 0), (.string ⟨#[]⟩), (.slice none 0 0)] H10) fun x5_11 H12 =>
 S.b (stV 5 x5_11 x11_9 H12) fun _ H13 =>
 S.b (C 38 [x8_5] H13) fun x13_14 H15 =>
 S.b (up (fAddr 1 x5_11) H15) fun x14_16 H17 =>
 S.b (stV 1 x14_16 x13_14 H17) fun _ H18 =>
 S.b (C 38 [x8_5] H18) fun x16_19 H20 =>
 S.b (up (fAddr 2 x5_11) H20) fun x17_21 H22 =>
 S.b (stV 1 x17_21 x16_19 H22) fun _ H23 =>
 S.b (C 39 [x8_5, (.int .i64 32)] H23) fun x19_24 H25 =>
 S.b (toStr x19_24 H25) fun x20_26 H27 =>
 S.b (up (fAddr 3 x5_11) H27) fun x21_28 H29 =>
 S.b (stV 1 x21_28 x20_26 H29) fun _ H30 =>
 S.b (C 39 [x8_5, (.int .i64 262144)] H30) fun x23_31 H32 =>
 S.b (up (fAddr 4 x5_11) H32) fun x24_33 H34 =>
 S.b (stV 1 x24_33 x23_31 H34) fun _ H35 =>
 S.b (nilC x8_5 H35) fun x26_36 H37 =>
 S.b (up (fAddr 1 x26_36) H37) fun x27_38 H39 =>
 S.b (ldC x27_38 H39) fun x28_40 H41 =>
 S.b (gd (wd x28_40 false) (some (x8_5, H41)) H41) fun x30_42 H43 =>
 S.b (gd (wd x28_40 false) (nilC x30_42 H43) H43) fun x31_44 H45 =>
 S.b (gd (wd x28_40 false) (up (fAddr 0 x31_44) H45) H45) fun x32_46 H47 =>
 S.b (gd (wd x28_40 false) (ldC x32_46 H47) H47) fun x33_48 H49 =>
 S.b (gd (wd x28_40 false) (up (lenS x33_48) H49) H49) fun x34_50 H51 =>
 S.b (gd (wd x28_40 false) (up (binB Tryd.prog .gtr 3 x34_50 (.int .i64 0)) H51) H51) fun x35_52 H53 =>
 S.b (pickV x28_40 (.bool true) x35_52 H53) fun x36_54 H55 =>
 S.b (gd (wd x36_54 false) (ldA 5 x5_11 H55) H55) fun x38_56 H57 =>
 S.b (gd (wd x36_54 false) (C 21 [x38_56] H57) H57) fun x39_58 H59 =>
 S.b (gd (wd x36_54 false) (up (binB Tryd.prog .neq 26 x39_58 (.int .i64 0)) H59) H59) fun x40_60 H61 =>
 S.b (pickV x36_54 (.bool true) x40_60 H61) fun x41_62 H63 =>
 S.i x41_62
 (S.b (bld [(.int .i64 0), (.int .i64 0), (.int .i64 0), (.string ⟨#[]⟩), (.slice none 0 0)] [] H63) fun x42_64 H65 =>
  S.b (stV 5 x2_1 x42_64 H65) fun _ H66 =>
  (resM [(ldA 5 x2_1 H66).map (·.1), some (.int .i64 290)]).map fun l => (one l, H66))
 (S.b (ldA 5 x5_11 H63) fun x43_67 H68 =>
  S.b (stV 5 x2_1 x43_67 H68) fun _ H69 =>
  (resM [(ldA 5 x2_1 H69).map (·.1), some (.int .i64 0)]).map fun l => (one l, H69))

theorem f26_main (S : Seam (Value × Heap)) (C : CallF) (n : Nat) (x0 : Value) (H : Heap) : acodeK S Tryd.prog C n 44 f26_c (env0 [x0]) H (fin Tryd.prog Tryd.f26) = f26 S C n x0 H := by
  kernel_rfl


theorem f26_eq {gl : Bool} {E : Ext} (hE : E 26 = none) (n : Nat) (x0 : Value) (H : Heap) : acall Tryd.prog gl E (n + 1) 26 [x0] H = f26 real (acall Tryd.prog gl E n) n x0 H :=
  (acall_eq (N := 44) Tryd.func26 (by kernel_rfl) (by kernel_rfl) hE (okgl f26_c (by kernel_rfl)) (by kernel_rfl)).trans (f26_main real _ n x0 H)

/-! incunable/incunablelaw29.refuses -/
noncomputable def f34_c : Code := (Tryd.f34.body).getD .skip

noncomputable def f34 (S : Seam (Value × Heap)) (C : CallF) (n : Nat) (x0 : Value) (H : Heap) : Option (Value × Heap) :=
 S.b (C 23 [x0] H) fun x7_1 H2 =>
 S.b (extr 0 x7_1 H2) fun x8_3 H4 =>
 S.b (extr 1 x7_1 H4) fun x9_5 H6 =>
 S.b (newV [(.int .i64 0), (.string ⟨#[]⟩), (.slice none 0 0)] H6) fun x3_7 H8 =>
 S.b (stV 3 x3_7 x8_3 H8) fun _ H9 =>
 S.b (up (binB Tryd.prog .eql 26 x9_5 (.int .i64 290)) H9) fun x11_10 H11 =>
 S.b (gd (wd x11_10 true) (ldA 3 x3_7 H11) H11) fun x13_12 H13 =>
 S.b (gd (wd x11_10 true) (bld [(.int .i64 0), (.string ⟨#[]⟩), (.slice none 0 0)] [] H13) H13) fun x14_14 H15 =>
 S.b (gd (wd x11_10 true) (C 16 [x13_12, x14_14] H15) H15) fun x15_16 H17 =>
 S.b (pickV x11_10 x15_16 (.bool false) H17) fun x16_18 H19 =>
 some (x16_18, H19)

theorem f34_main (S : Seam (Value × Heap)) (C : CallF) (n : Nat) (x0 : Value) (H : Heap) : acodeK S Tryd.prog C n 17 f34_c (env0 [x0]) H (fin Tryd.prog Tryd.f34) = f34 S C n x0 H := by
  kernel_rfl


theorem f34_eq {gl : Bool} {E : Ext} (hE : E 34 = none) (n : Nat) (x0 : Value) (H : Heap) : acall Tryd.prog gl E (n + 1) 34 [x0] H = f34 real (acall Tryd.prog gl E n) n x0 H :=
  (acall_eq (N := 17) Tryd.func34 (by kernel_rfl) (by kernel_rfl) hE (okgl f34_c (by kernel_rfl)) (by kernel_rfl)).trans (f34_main real _ n x0 H)

/-! incunable/incunablelaw29.awake -/
noncomputable def f17_c : Code := (Tryd.f17.body).getD .skip

noncomputable def f17 (S : Seam (Value × Heap)) (C : CallF) (n : Nat) (H : Heap) : Option (Value × Heap) :=
 S.b (bldS 1 1 [(.int .u8 0)] [(0, 1, (.int .u8 120))] H) fun x9_1 H2 =>
 S.b (markV x9_1 H2) fun x10_3 H4 =>
 S.b (bld [(.int .i64 0), (.string ⟨#[]⟩), (.slice none 0 0)] [(0, 1, (.int .i64 1)), (1, 1, (.string ⟨#[97]⟩)), (2, 1, x10_3)] H4) fun x11_5 H6 =>
 S.b (C 11 [x11_5] H6) fun x12_7 H8 =>
 S.b (extr 0 x12_7 H8) fun x13_9 H10 =>
 S.b (extr 1 x12_7 H10) fun x14_11 H12 =>
 S.b (bld [(.int .i64 0), (.string ⟨#[]⟩), (.slice none 0 0)] [(0, 1, (.int .i64 6))] H12) fun x16_13 H14 =>
 S.b (C 11 [x16_13] H14) fun x17_15 H16 =>
 S.b (extr 0 x17_15 H16) fun x18_17 H18 =>
 S.b (extr 1 x17_15 H18) fun x19_19 H20 =>
 S.b (bld [(.int .i64 0), (.int .i64 0), (.int .i64 0), (.string ⟨#[]⟩), (.slice none 0 0)] [(0, 1, (.int .i64 3)), (1, 1, (.int .i64 150)), (2, 1, (.int .i64 5)), (3, 1, (.string ⟨#[97]⟩))] H20) fun x21_21 H22 =>
 S.b (C 18 [x21_21] H22) fun x22_23 H24 =>
 S.b (extr 0 x22_23 H24) fun x23_25 H26 =>
 S.b (extr 1 x22_23 H26) fun x24_27 H28 =>
 S.b (bldS 1 5 [(.int .u8 0)] [(0, 1, (.int .u8 1)), (1, 1, (.int .u8 1)), (2, 1, (.int .u8 97)), (3, 1, (.int .u8 1)), (4, 1, (.int .u8 120))] H28) fun x26_29 H30 =>
 S.b (C 13 [x13_9, x26_29] H30) fun x27_31 H32 =>
 S.b (gd (wd x27_31 true) (some (x18_17, H32)) H32) fun x29_33 H34 =>
 S.b (gd (wd x27_31 true) (bldS 1 3 [(.int .u8 0)] [(0, 1, (.int .u8 6)), (1, 1, (.int .u8 0)), (2, 1, (.int .u8 0))] H34) H34) fun x30_35 H36 =>
 S.b (gd (wd x27_31 true) (C 13 [x29_33, x30_35] H36) H36) fun x31_37 H38 =>
 S.b (pickV x27_31 x31_37 (.bool false) H38) fun x32_39 H40 =>
 S.b (gd (wd x32_39 true) (some (x23_25, H40)) H40) fun x34_41 H42 =>
 S.b (gd (wd x32_39 true) (bldS 1 7 [(.int .u8 0)] [(0, 1, (.int .u8 3)), (1, 1, (.int .u8 150)), (2, 1, (.int .u8 1)), (3, 1, (.int .u8 5)), (4, 1, (.int .u8 1)), (5, 1, (.int .u8 97)), (6, 1, (.int .u8 0))] H42) H42) fun x35_43 H44 =>
 S.b (gd (wd x32_39 true) (C 13 [x34_41, x35_43] H44) H44) fun x36_45 H46 =>
 S.b (pickV x32_39 x36_45 (.bool false) H46) fun x37_47 H48 =>
 S.b (gd (wd x37_47 true) (some (x14_11, H48)) H48) fun x40_49 H50 =>
 S.b (gd (wd x37_47 true) (up (binB Tryd.prog .eql 26 x40_49 (.int .i64 0)) H50) H50) fun x41_51 H52 =>
 S.b (pickV x37_47 x41_51 (.bool false) H52) fun x42_53 H54 =>
 S.b (gd (wd x42_53 true) (some (x19_19, H54)) H54) fun x44_55 H56 =>
 S.b (gd (wd x42_53 true) (up (binB Tryd.prog .eql 26 x44_55 (.int .i64 0)) H56) H56) fun x45_57 H58 =>
 S.b (pickV x42_53 x45_57 (.bool false) H58) fun x46_59 H60 =>
 S.b (gd (wd x46_59 true) (some (x24_27, H60)) H60) fun x48_61 H62 =>
 S.b (gd (wd x46_59 true) (up (binB Tryd.prog .eql 26 x48_61 (.int .i64 0)) H62) H62) fun x49_63 H64 =>
 S.b (pickV x46_59 x49_63 (.bool false) H64) fun x50_65 H66 =>
 S.b (gd (wd x50_65 true) (bldS 1 2 [(.int .u8 0)] [(0, 1, (.int .u8 6)), (1, 1, (.int .u8 0))] H66) H66) fun x52_67 H68 =>
 S.b (gd (wd x50_65 true) (C 34 [x52_67] H68) H68) fun x53_69 H70 =>
 S.b (pickV x50_65 x53_69 (.bool false) H70) fun x54_71 H72 =>
 S.b (gd (wd x54_71 true) (bldS 1 4 [(.int .u8 0)] [(0, 1, (.int .u8 1)), (1, 1, (.int .u8 1)), (2, 1, (.int .u8 65)), (3, 1, (.int .u8 0))] H72) H72) fun x56_73 H74 =>
 S.b (gd (wd x54_71 true) (C 34 [x56_73] H74) H74) fun x57_75 H76 =>
 S.b (pickV x54_71 x57_75 (.bool false) H76) fun x58_77 H78 =>
 S.b (gd (wd x58_77 true) (bldS 1 3 [(.int .u8 0)] [(0, 1, (.int .u8 8)), (1, 1, (.int .u8 0)), (2, 1, (.int .u8 0))] H78) H78) fun x60_79 H80 =>
 S.b (gd (wd x58_77 true) (C 34 [x60_79] H80) H80) fun x61_81 H82 =>
 S.b (pickV x58_77 x61_81 (.bool false) H82) fun x62_83 H84 =>
 S.b (gd (wd x62_83 true) (bldS 1 4 [(.int .u8 0)] [(0, 1, (.int .u8 6)), (1, 1, (.int .u8 0)), (2, 1, (.int .u8 0)), (3, 1, (.int .u8 0))] H84) H84) fun x64_85 H86 =>
 S.b (gd (wd x62_83 true) (C 34 [x64_85] H86) H86) fun x65_87 H88 =>
 S.b (pickV x62_83 x65_87 (.bool false) H88) fun x66_89 H90 =>
 some (x66_89, H90)

theorem f17_main (S : Seam (Value × Heap)) (C : CallF) (n : Nat) (H : Heap) : acodeK S Tryd.prog C n 67 f17_c (env0 []) H (fin Tryd.prog Tryd.f17) = f17 S C n H := by
  kernel_rfl


theorem f17_eq {gl : Bool} {E : Ext} (hE : E 17 = none) (n : Nat) (H : Heap) : acall Tryd.prog gl E (n + 1) 17 [] H = f17 real (acall Tryd.prog gl E n) n H :=
  (acall_eq (N := 67) Tryd.func17 (by kernel_rfl) (by kernel_rfl) hE (okgl f17_c (by kernel_rfl)) (by kernel_rfl)).trans (f17_main real _ n H)

/-! incunable/incunablelaw29.TalkAsks -/
noncomputable def f3_c : Code := (Tryd.f3.body).getD .skip

noncomputable def f3 (S : Seam (Value × Heap)) (C : CallF) (n : Nat) (x0 : Value) (H : Heap) : Option (Value × Heap) :=
 S.b (newV (Value.cells x0).toList H) fun x1_1 H2 =>
 S.b (up (fAddr 0 x1_1) H2) fun x8_3 H4 =>
 S.c true (S.b (ldC x8_3 H4) fun x9_5 H6 =>
 S.b (up (fAddr 1 x1_1) H6) fun x10_7 H8 =>
 S.c true (S.b (ldC x10_7 H8) fun x11_9 H10 =>
 S.b (up (fAddr 2 x1_1) H10) fun x12_11 H12 =>
 S.c true (S.b (ldC x12_11 H12) fun x13_13 H14 =>
 S.b (C 10 [x13_13] H14) fun x14_15 H16 =>
 S.c (sameBlk H14 H16 (blkOf x10_7) && (sameBlk H14 H16 (blkOf x8_3) && true)) (S.b (bld [(.int .i64 0), (.string ⟨#[]⟩), (.slice none 0 0)] [(0, 1, x9_5), (1, 1, x11_9), (2, 1, x14_15)] H16) fun x15_17 H18 =>
  S.b (newV [(.int .i64 0), (.string ⟨#[]⟩), (.slice none 0 0)] H18) fun x3_19 H20 =>
  S.b (stV 3 x3_19 x15_17 H20) fun _ H21 =>
  S.c true (S.b (ldA 3 x3_19 H21) fun x17_22 H23 =>
   S.b (C 11 [x17_22] H23) fun x18_24 H25 =>
   S.b (extr 0 x18_24 H25) fun x19_26 H27 =>
   S.b (extr 1 x18_24 H27) fun x20_28 H29 =>
   S.b (ldA 3 x1_1 H29) fun x22_30 H31 =>
   S.b (C 12 [x22_30] H31) fun x23_32 H33 =>
   S.b (extr 0 x23_32 H33) fun x24_34 H35 =>
   S.b (extr 1 x23_32 H35) fun x25_36 H37 =>
   S.b (C 13 [x19_26, x24_34] H37) fun x28_38 H39 =>
   S.c true (S.b (gd (wd x28_38 true) (some (x20_28, H39)) H39) fun x30_40 H41 =>
    S.b (gd (wd x28_38 true) (some (x25_36, H41)) H41) fun x31_42 H43 =>
    S.b (gd (wd x28_38 true) (up (binB Tryd.prog .eql 26 x30_40 x31_42) H43) H43) fun x32_44 H45 =>
    S.b (pickV x28_38 x32_44 (.bool false) H45) fun x33_46 H47 =>
    S.c (!(wd x33_46 true) || true) (S.b (gd (wd x33_46 true) (ldA 3 x3_19 H47) H47) fun x35_48 H49 =>
    S.b (gd (wd x33_46 true) (C 14 [x35_48] H49) H49) fun x36_50 H51 =>
    S.c (!(wd x33_46 true) || true) (S.c (!(wd x33_46 true) || ((!(wd x33_46 true) || sameBlk H49 H51 (blkOf x1_1)) && true)) (S.b (gd (wd x33_46 true) (ldA 3 x1_1 H51) H51) fun x37_52 H53 =>
     S.b (gd (wd x33_46 true) (C 15 [x37_52] H53) H53) fun x38_54 H55 =>
     S.c (!(wd x33_46 true) || true) (S.b (gd (wd x33_46 true) (up (binB Tryd.prog .eql 26 x36_50 x38_54) H55) H55) fun x39_56 H57 =>
      S.b (pickV x33_46 x39_56 (.bool false) H57) fun x40_58 H59 =>
      S.c (!(wd x40_58 true) || true) (S.b (gd (wd x40_58 true) (ldA 3 x3_19 H59) H59) fun x42_60 H61 =>
      S.c (!(wd x40_58 true) || true) (S.b (gd (wd x40_58 true) (ldA 3 x1_1 H61) H61) fun x43_62 H63 =>
      S.b (gd (wd x40_58 true) (C 16 [x42_60, x43_62] H63) H63) fun x44_64 H65 =>
      S.c (!(wd x40_58 true) || true) (S.b (pickV x40_58 x44_64 (.bool false) H65) fun x45_66 H67 =>
       S.b (gd (wd x45_66 true) (C 17 [] H67) H67) fun x47_68 H69 =>
       S.c (!(wd x45_66 true) || true) (S.b (pickV x45_66 x47_68 (.bool false) H69) fun x48_70 H71 =>
        some (x48_70, H71)))))))))))))))

theorem f3_main (S : Seam (Value × Heap)) (C : CallF) (n : Nat) (x0 : Value) (H : Heap) : acodeK S Tryd.prog C n 49 f3_c (env0 [x0]) H (fin Tryd.prog Tryd.f3) = f3 S C n x0 H := by
  kernel_rfl


theorem f3_eq {gl : Bool} {E : Ext} (hE : E 3 = none) (n : Nat) (x0 : Value) (H : Heap) : acall Tryd.prog gl E (n + 1) 3 [x0] H = f3 real (acall Tryd.prog gl E n) n x0 H :=
  (acall_eq (N := 49) Tryd.func3 (by kernel_rfl) (by kernel_rfl) hE (okgl f3_c (by kernel_rfl)) (by kernel_rfl)).trans (f3_main real _ n x0 H)

/-! incunable/incunablelaw29.TalkAnswers -/
noncomputable def f4_c : Code := (Tryd.f4.body).getD .skip

noncomputable def f4 (S : Seam (Value × Heap)) (C : CallF) (n : Nat) (x0 : Value) (H : Heap) : Option (Value × Heap) :=
 S.b (newV (Value.cells x0).toList H) fun x1_1 H2 =>
 S.b (ldA 5 x1_1 H2) fun x8_3 H4 =>
 S.b (newV [(.int .i64 0), (.int .i64 0), (.int .i64 0), (.string ⟨#[]⟩), (.slice none 0 0)] H4) fun x3_5 H6 =>
 S.b (stV 5 x3_5 x8_3 H6) fun _ H7 =>
 S.b (up (fAddr 4 x1_1) H7) fun x9_8 H9 =>
 S.b (ldC x9_8 H9) fun x10_10 H11 =>
 S.b (C 10 [x10_10] H11) fun x11_12 H13 =>
 S.b (up (fAddr 4 x3_5) H13) fun x12_14 H15 =>
 S.b (stV 1 x12_14 x11_12 H15) fun _ H16 =>
 S.b (ldA 5 x3_5 H16) fun x14_17 H18 =>
 S.b (C 18 [x14_17] H18) fun x15_19 H20 =>
 S.b (extr 0 x15_19 H20) fun x16_21 H22 =>
 S.b (extr 1 x15_19 H22) fun x17_23 H24 =>
 S.b (ldA 5 x1_1 H24) fun x19_25 H26 =>
 S.b (C 19 [x19_25] H26) fun x20_27 H28 =>
 S.b (extr 0 x20_27 H28) fun x21_29 H30 =>
 S.b (extr 1 x20_27 H30) fun x22_31 H32 =>
 S.b (C 13 [x16_21, x21_29] H32) fun x25_33 H34 =>
 S.c true (S.b (gd (wd x25_33 true) (some (x17_23, H34)) H34) fun x27_35 H36 =>
  S.b (gd (wd x25_33 true) (some (x22_31, H36)) H36) fun x28_37 H38 =>
  S.b (gd (wd x25_33 true) (up (binB Tryd.prog .eql 26 x27_35 x28_37) H38) H38) fun x29_39 H40 =>
  S.b (pickV x25_33 x29_39 (.bool false) H40) fun x30_41 H42 =>
  S.c (!(wd x30_41 true) || true) (S.b (gd (wd x30_41 true) (ldA 5 x3_5 H42) H42) fun x32_43 H44 =>
  S.b (gd (wd x30_41 true) (C 20 [x32_43] H44) H44) fun x33_45 H46 =>
  S.c (!(wd x30_41 true) || true) (S.c (!(wd x30_41 true) || ((!(wd x30_41 true) || sameBlk H44 H46 (blkOf x1_1)) && true)) (S.b (gd (wd x30_41 true) (ldA 5 x1_1 H46) H46) fun x34_47 H48 =>
   S.b (gd (wd x30_41 true) (C 21 [x34_47] H48) H48) fun x35_49 H50 =>
   S.c (!(wd x30_41 true) || true) (S.b (gd (wd x30_41 true) (up (binB Tryd.prog .eql 26 x33_45 x35_49) H50) H50) fun x36_51 H52 =>
    S.b (pickV x30_41 x36_51 (.bool false) H52) fun x37_53 H54 =>
    S.c (!(wd x37_53 true) || true) (S.b (gd (wd x37_53 true) (ldA 5 x3_5 H54) H54) fun x39_55 H56 =>
    S.c (!(wd x37_53 true) || true) (S.b (gd (wd x37_53 true) (ldA 5 x1_1 H56) H56) fun x40_57 H58 =>
    S.b (gd (wd x37_53 true) (C 22 [x39_55, x40_57] H58) H58) fun x41_59 H60 =>
    S.c (!(wd x37_53 true) || true) (S.b (pickV x37_53 x41_59 (.bool false) H60) fun x42_61 H62 =>
     S.b (gd (wd x42_61 true) (C 17 [] H62) H62) fun x44_63 H64 =>
     S.c (!(wd x42_61 true) || true) (S.b (pickV x42_61 x44_63 (.bool false) H64) fun x45_65 H66 =>
      some (x45_65, H66))))))))))

theorem f4_main (S : Seam (Value × Heap)) (C : CallF) (n : Nat) (x0 : Value) (H : Heap) : acodeK S Tryd.prog C n 46 f4_c (env0 [x0]) H (fin Tryd.prog Tryd.f4) = f4 S C n x0 H := by
  kernel_rfl


theorem f4_eq {gl : Bool} {E : Ext} (hE : E 4 = none) (n : Nat) (x0 : Value) (H : Heap) : acall Tryd.prog gl E (n + 1) 4 [x0] H = f4 real (acall Tryd.prog gl E n) n x0 H :=
  (acall_eq (N := 46) Tryd.func4 (by kernel_rfl) (by kernel_rfl) hE (okgl f4_c (by kernel_rfl)) (by kernel_rfl)).trans (f4_main real _ n x0 H)

/-! incunable/incunablelaw29.TalkReads -/
noncomputable def f5_c : Code := (Tryd.f5.body).getD .skip

noncomputable def f5_L1 (S : Seam (Value × Heap)) (C : CallF) (n : Nat) : Nat → Value → Value → Value → Value → Heap → Option (Value × Heap)
 | 0, _, _, _, _, _ => none
 | m + 1, x0_106, x3_107, x8_108, x13_109, H110 =>
   S.b (up (fAddr 4 x8_108) H110) fun x74_111 H112 =>
   S.b (ldC x74_111 H112) fun x75_113 H114 =>
   S.b (up (lenS x75_113) H114) fun x76_115 H116 =>
   S.b (up (binB Tryd.prog .lss 3 x13_109 x76_115) H116) fun x77_117 H118 =>
   S.i x77_117
   (S.b (up (fAddr 4 x8_108) H118) fun x80_119 H120 =>
    S.c true (S.b (ldC x80_119 H120) fun x81_121 H122 =>
    S.b (up (fAddr 4 x8_108) H122) fun x83_123 H124 =>
    S.c true (S.b (ldC x83_123 H124) fun x84_125 H126 =>
    S.b (up (iAddrS 1 x84_125 x13_109) H126) fun x86_127 H128 =>
    S.c true (S.b (ldC x86_127 H128) fun x87_129 H130 =>
    S.b (up (binB Tryd.prog .xor 5 x87_129 (.int .u8 1)) H130) fun x88_131 H132 =>
    S.b (up (iAddrS 1 x81_121 x13_109) H132) fun x89_133 H134 =>
    S.b (stV 1 x89_133 x88_131 H134) fun _ H135 =>
    S.c true (S.b (up (binB Tryd.prog .add 3 x13_109 (.int .i64 1)) H135) fun x79_136 H137 =>
     f5_L1 S C n m x0_106 x3_107 x8_108 x79_136 H137)))))
   (S.b (C 13 [x3_107, x0_106] H118) fun x92_138 H139 =>
    S.b (gd (wd x92_138 true) (C 17 [] H139) H139) fun x94_140 H141 =>
    S.b (pickV x92_138 x94_140 (.bool false) H141) fun x95_142 H143 =>
    some (x95_142, H143))

theorem f5_L1_eq (S : Seam (Value × Heap)) (C : CallF) (n : Nat) : ∀ (m : Nat) (env : Env) (H : Heap), aloopK (acodeK S Tryd.prog C n 96 (cAt f5_c [1, 1, 1, 1, 1, 1, 1, 1, 0, 1, 0, 0])) m env H (kAt S Tryd.prog C n 96 f5_c [1, 1, 1, 1, 1, 1, 1, 1, 0, 1, 0] (fin Tryd.prog Tryd.f5)) = f5_L1 S C n m (env 0) (env 3) (env 8) (env 13) H := by
  intro m env H
  refine aloopK_eq (L := fun m env H => f5_L1 S C n m (env 0) (env 3) (env 8) (env 13) H) (fun env H => rfl) (fun m env H => ?_) m env H
  kernel_rfl


noncomputable def f5_L0 (S : Seam (Value × Heap)) (C : CallF) (n : Nat) : Nat → Value → Value → Value → Value → Value → Heap → Option (Value × Heap)
 | 0, _, _, _, _, _, _ => none
 | m + 1, x0_73, x3_74, x4_75, x8_76, x12_77, H78 =>
   S.b (up (fAddr 2 x4_75) H78) fun x57_79 H80 =>
   S.b (ldC x57_79 H80) fun x58_81 H82 =>
   S.b (up (lenS x58_81) H82) fun x59_83 H84 =>
   S.b (up (binB Tryd.prog .lss 3 x12_77 x59_83) H84) fun x60_85 H86 =>
   S.i x60_85
   (S.b (up (fAddr 2 x4_75) H86) fun x63_87 H88 =>
    S.c true (S.b (ldC x63_87 H88) fun x64_89 H90 =>
    S.b (up (fAddr 2 x4_75) H90) fun x66_91 H92 =>
    S.c true (S.b (ldC x66_91 H92) fun x67_93 H94 =>
    S.b (up (iAddrS 1 x67_93 x12_77) H94) fun x69_95 H96 =>
    S.c true (S.b (ldC x69_95 H96) fun x70_97 H98 =>
    S.b (up (binB Tryd.prog .xor 5 x70_97 (.int .u8 1)) H98) fun x71_99 H100 =>
    S.b (up (iAddrS 1 x64_89 x12_77) H100) fun x72_101 H102 =>
    S.b (stV 1 x72_101 x71_99 H102) fun _ H103 =>
    S.c true (S.b (up (binB Tryd.prog .add 3 x12_77 (.int .i64 1)) H103) fun x62_104 H105 =>
     f5_L0 S C n m x0_73 x3_74 x4_75 x8_76 x62_104 H105)))))
   (f5_L1 S C n n x0_73 x3_74 x8_76 (.int .i64 0) H86)

noncomputable def f5_L0G (S : Seam (Value × Heap)) (C : CallF) (n : Nat) (R0 : Value→Value→Value→Value→Value→Heap→Option (Value × Heap)) (P1 : Env → Heap → Option (Value × Heap)) (env : Env) (H : Heap) : Option (Value × Heap) :=
 S.b (up (fAddr 2 (env 4)) H) fun x57_144 H145 =>
 S.b (ldC x57_144 H145) fun x58_146 H147 =>
 S.b (up (lenS x58_146) H147) fun x59_148 H149 =>
 S.b (up (binB Tryd.prog .lss 3 (env 12) x59_148) H149) fun x60_150 H151 =>
 S.i x60_150
 (S.b (up (fAddr 2 (env 4)) H151) fun x63_152 H153 =>
  S.c true (S.b (ldC x63_152 H153) fun x64_154 H155 =>
  S.b (up (fAddr 2 (env 4)) H155) fun x66_156 H157 =>
  S.c true (S.b (ldC x66_156 H157) fun x67_158 H159 =>
  S.b (up (iAddrS 1 x67_158 (env 12)) H159) fun x69_160 H161 =>
  S.c true (S.b (ldC x69_160 H161) fun x70_162 H163 =>
  S.b (up (binB Tryd.prog .xor 5 x70_162 (.int .u8 1)) H163) fun x71_164 H165 =>
  S.b (up (iAddrS 1 x64_154 (env 12)) H165) fun x72_166 H167 =>
  S.b (stV 1 x72_166 x71_164 H167) fun u168 H169 =>
  S.c true (S.b (up (binB Tryd.prog .add 3 (env 12) (.int .i64 1)) H169) fun x62_170 H171 =>
   R0 (env 0) (env 3) (env 4) (env 8) x62_170 H171)))))
 (P1 (putE 96 (putE 96 (putE 96 (putE 96 (putE 96 (putE 96 env (some 56) (env 12)) (some 57) x57_144) (some 58) x58_146) (some 59) x59_148) (some 60) x60_150) (some 13) (.int .i64 0)) H151)

theorem f5_L0_eq (S : Seam (Value × Heap)) (C : CallF) (n : Nat) : ∀ (m : Nat) (env : Env) (H : Heap), aloopK (acodeK S Tryd.prog C n 96 (cAt f5_c [1, 1, 1, 1, 1, 1, 1, 0, 1, 0, 0])) m env H (kAt S Tryd.prog C n 96 f5_c [1, 1, 1, 1, 1, 1, 1, 0, 1, 0] (fin Tryd.prog Tryd.f5)) = f5_L0 S C n m (env 0) (env 3) (env 4) (env 8) (env 12) H := by
  intro m env H
  refine aloopK_eq (L := fun m env H => f5_L0 S C n m (env 0) (env 3) (env 4) (env 8) (env 12) H) (fun env H => rfl) (fun m env H => ?_) m env H
  have h1 : acodeK S Tryd.prog C n 96 (cAt f5_c [1, 1, 1, 1, 1, 1, 1, 0, 1, 0, 0]) env H (onNormal (fun env' H' => f5_L0 S C n m (env' 0) (env' 3) (env' 4) (env' 8) (env' 12) H') (kAt S Tryd.prog C n 96 f5_c [1, 1, 1, 1, 1, 1, 1, 0, 1, 0] (fin Tryd.prog Tryd.f5))) = f5_L0G S C n (f5_L0 S C n m) (fun env H => aloopK (acodeK S Tryd.prog C n 96 (cAt f5_c [1, 1, 1, 1, 1, 1, 1, 1, 0, 1, 0, 0])) n env H (kAt S Tryd.prog C n 96 f5_c [1, 1, 1, 1, 1, 1, 1, 1, 0, 1, 0] (fin Tryd.prog Tryd.f5))) env H := by kernel_rfl
  have e0 : (fun env H => aloopK (acodeK S Tryd.prog C n 96 (cAt f5_c [1, 1, 1, 1, 1, 1, 1, 1, 0, 1, 0, 0])) n env H (kAt S Tryd.prog C n 96 f5_c [1, 1, 1, 1, 1, 1, 1, 1, 0, 1, 0] (fin Tryd.prog Tryd.f5))) = (fun env H => f5_L1 S C n n (env 0) (env 3) (env 8) (env 13) H) := by funext env H; exact f5_L1_eq S C n n env H
  rw [e0] at h1
  exact h1.trans (by kernel_rfl)


noncomputable def f5 (S : Seam (Value × Heap)) (C : CallF) (n : Nat) (x0 : Value) (H : Heap) : Option (Value × Heap) :=
 S.b (C 10 [x0] H) fun x15_1 H2 =>
 S.b (C 23 [x15_1] H2) fun x18_3 H4 =>
 S.b (extr 0 x18_3 H4) fun x19_5 H6 =>
 S.b (extr 1 x18_3 H6) fun x20_7 H8 =>
 S.b (newV [(.int .i64 0), (.string ⟨#[]⟩), (.slice none 0 0)] H8) fun x4_9 H10 =>
 S.b (stV 3 x4_9 x19_5 H10) fun _ H11 =>
 S.b (C 24 [x0] H11) fun x23_12 H13 =>
 S.b (extr 0 x23_12 H13) fun x24_14 H15 =>
 S.b (extr 1 x23_12 H15) fun x25_16 H17 =>
 S.b (newV [(.int .i64 0), (.string ⟨#[]⟩), (.slice none 0 0)] H17) fun x6_18 H19 =>
 S.b (stV 3 x6_18 x24_14 H19) fun _ H20 =>
 S.b (C 25 [x15_1] H20) fun x28_21 H22 =>
 S.b (extr 0 x28_21 H22) fun x29_23 H24 =>
 S.b (extr 1 x28_21 H24) fun x30_25 H26 =>
 S.b (newV [(.int .i64 0), (.int .i64 0), (.int .i64 0), (.string ⟨#[]⟩), (.slice none 0 0)] H26) fun x8_27 H28 =>
 S.b (stV 5 x8_27 x29_23 H28) fun _ H29 =>
 S.b (C 26 [x0] H29) fun x33_30 H31 =>
 S.b (extr 0 x33_30 H31) fun x34_32 H33 =>
 S.b (extr 1 x33_30 H33) fun x35_34 H35 =>
 S.b (newV [(.int .i64 0), (.int .i64 0), (.int .i64 0), (.string ⟨#[]⟩), (.slice none 0 0)] H35) fun x10_36 H37 =>
 S.b (stV 5 x10_36 x34_32 H37) fun _ H38 =>
 S.b (ldA 3 x4_9 H38) fun x36_39 H40 =>
 S.b (ldA 3 x6_18 H40) fun x37_41 H42 =>
 S.b (C 16 [x36_39, x37_41] H42) fun x38_43 H44 =>
 S.b (up (unB .not x38_43) H44) fun x39_45 H46 =>
 S.b (gd (wd x39_45 false) (some (x20_7, H46)) H46) fun x41_47 H48 =>
 S.b (gd (wd x39_45 false) (some (x25_16, H48)) H48) fun x42_49 H50 =>
 S.b (gd (wd x39_45 false) (up (binB Tryd.prog .neq 26 x41_47 x42_49) H50) H50) fun x43_51 H52 =>
 S.b (pickV x39_45 (.bool true) x43_51 H52) fun x44_53 H54 =>
 S.b (gd (wd x44_53 false) (ldA 5 x8_27 H54) H54) fun x46_55 H56 =>
 S.b (gd (wd x44_53 false) (ldA 5 x10_36 H56) H56) fun x47_57 H58 =>
 S.b (gd (wd x44_53 false) (C 22 [x46_55, x47_57] H58) H58) fun x48_59 H60 =>
 S.b (gd (wd x44_53 false) (up (unB .not x48_59) H60) H60) fun x49_61 H62 =>
 S.b (pickV x44_53 (.bool true) x49_61 H62) fun x50_63 H64 =>
 S.b (gd (wd x50_63 false) (some (x30_25, H64)) H64) fun x52_65 H66 =>
 S.b (gd (wd x50_63 false) (some (x35_34, H66)) H66) fun x53_67 H68 =>
 S.b (gd (wd x50_63 false) (up (binB Tryd.prog .neq 26 x52_65 x53_67) H68) H68) fun x54_69 H70 =>
 S.b (pickV x50_63 (.bool true) x54_69 H70) fun x55_71 H72 =>
 S.i x55_71
 (some ((.bool false), H72))
 (f5_L0 S C n n x0 x15_1 x4_9 x8_27 (.int .i64 0) H72)

noncomputable def f5G (S : Seam (Value × Heap)) (C : CallF) (n : Nat) (P0 : Env → Heap → Option (Value × Heap)) (x0 : Value) (H : Heap) : Option (Value × Heap) :=
 S.b (C 10 [x0] H) fun x15_172 H173 =>
 S.b (C 23 [x15_172] H173) fun x18_174 H175 =>
 S.b (extr 0 x18_174 H175) fun x19_176 H177 =>
 S.b (extr 1 x18_174 H177) fun x20_178 H179 =>
 S.b (newV [(.int .i64 0), (.string ⟨#[]⟩), (.slice none 0 0)] H179) fun x4_180 H181 =>
 S.b (stV 3 x4_180 x19_176 H181) fun u182 H183 =>
 S.b (C 24 [x0] H183) fun x23_184 H185 =>
 S.b (extr 0 x23_184 H185) fun x24_186 H187 =>
 S.b (extr 1 x23_184 H187) fun x25_188 H189 =>
 S.b (newV [(.int .i64 0), (.string ⟨#[]⟩), (.slice none 0 0)] H189) fun x6_190 H191 =>
 S.b (stV 3 x6_190 x24_186 H191) fun u192 H193 =>
 S.b (C 25 [x15_172] H193) fun x28_194 H195 =>
 S.b (extr 0 x28_194 H195) fun x29_196 H197 =>
 S.b (extr 1 x28_194 H197) fun x30_198 H199 =>
 S.b (newV [(.int .i64 0), (.int .i64 0), (.int .i64 0), (.string ⟨#[]⟩), (.slice none 0 0)] H199) fun x8_200 H201 =>
 S.b (stV 5 x8_200 x29_196 H201) fun u202 H203 =>
 S.b (C 26 [x0] H203) fun x33_204 H205 =>
 S.b (extr 0 x33_204 H205) fun x34_206 H207 =>
 S.b (extr 1 x33_204 H207) fun x35_208 H209 =>
 S.b (newV [(.int .i64 0), (.int .i64 0), (.int .i64 0), (.string ⟨#[]⟩), (.slice none 0 0)] H209) fun x10_210 H211 =>
 S.b (stV 5 x10_210 x34_206 H211) fun u212 H213 =>
 S.b (ldA 3 x4_180 H213) fun x36_214 H215 =>
 S.b (ldA 3 x6_190 H215) fun x37_216 H217 =>
 S.b (C 16 [x36_214, x37_216] H217) fun x38_218 H219 =>
 S.b (up (unB .not x38_218) H219) fun x39_220 H221 =>
 S.b (gd (wd x39_220 false) (some (x20_178, H221)) H221) fun x41_222 H223 =>
 S.b (gd (wd x39_220 false) (some (x25_188, H223)) H223) fun x42_224 H225 =>
 S.b (gd (wd x39_220 false) (up (binB Tryd.prog .neq 26 x41_222 x42_224) H225) H225) fun x43_226 H227 =>
 S.b (pickV x39_220 (.bool true) x43_226 H227) fun x44_228 H229 =>
 S.b (gd (wd x44_228 false) (ldA 5 x8_200 H229) H229) fun x46_230 H231 =>
 S.b (gd (wd x44_228 false) (ldA 5 x10_210 H231) H231) fun x47_232 H233 =>
 S.b (gd (wd x44_228 false) (C 22 [x46_230, x47_232] H233) H233) fun x48_234 H235 =>
 S.b (gd (wd x44_228 false) (up (unB .not x48_234) H235) H235) fun x49_236 H237 =>
 S.b (pickV x44_228 (.bool true) x49_236 H237) fun x50_238 H239 =>
 S.b (gd (wd x50_238 false) (some (x30_198, H239)) H239) fun x52_240 H241 =>
 S.b (gd (wd x50_238 false) (some (x35_208, H241)) H241) fun x53_242 H243 =>
 S.b (gd (wd x50_238 false) (up (binB Tryd.prog .neq 26 x52_240 x53_242) H243) H243) fun x54_244 H245 =>
 S.b (pickV x50_238 (.bool true) x54_244 H245) fun x55_246 H247 =>
 S.i x55_246
 (some ((.bool false), H247))
 (P0 (putE 96 (putE 96 (putE 96 (putE 96 (putE 96 (putE 96 (putE 96 (putE 96 (putE 96 (putE 96 (putE 96 (putE 96 (putE 96 (putE 96 (putE 96 (putE 96 (putE 96 (putE 96 (putE 96 (putE 96 (putE 96 (putE 96 (putE 96 (putE 96 (putE 96 (putE 96 (putE 96 (putE 96 (putE 96 (putE 96 (putE 96 (putE 96 (putE 96 (putE 96 (putE 96 (putE 96 (putE 96 (putE 96 (putE 96 (putE 96 (putE 96 (putE 96 (putE 96 (putE 96 (putE 96 (putE 96 (putE 96 (putE 96 (putE 96 (putE 96 (putE 96 (putE 96 (putE 96 (putE 96 (putE 96 (putE 96 (putE 96 (env0 [x0]) (some 2) (.bool false)) (some 14) x0) (some 15) x15_172) (some 3) x15_172) (some 17) x15_172) (some 18) x18_174) (some 16) x18_174) (some 19) x19_176) (some 20) x20_178) (some 4) x4_180) none u182) (some 5) x20_178) (some 22) x0) (some 23) x23_184) (some 21) x23_184) (some 24) x24_186) (some 25) x25_188) (some 6) x6_190) none u192) (some 7) x25_188) (some 27) x15_172) (some 28) x28_194) (some 26) x28_194) (some 29) x29_196) (some 30) x30_198) (some 8) x8_200) none u202) (some 9) x30_198) (some 32) x0) (some 33) x33_204) (some 31) x33_204) (some 34) x34_206) (some 35) x35_208) (some 10) x10_210) none u212) (some 11) x35_208) (some 36) x36_214) (some 37) x37_216) (some 38) x38_218) (some 39) x39_220) (some 40) x39_220) (some 41) x41_222) (some 42) x42_224) (some 43) x43_226) (some 44) x44_228) (some 45) x44_228) (some 46) x46_230) (some 47) x47_232) (some 48) x48_234) (some 49) x49_236) (some 50) x50_238) (some 51) x50_238) (some 52) x52_240) (some 53) x53_242) (some 54) x54_244) (some 55) x55_246) (some 12) (.int .i64 0)) H247)

theorem f5_main (S : Seam (Value × Heap)) (C : CallF) (n : Nat) (x0 : Value) (H : Heap) : acodeK S Tryd.prog C n 96 f5_c (env0 [x0]) H (fin Tryd.prog Tryd.f5) = f5 S C n x0 H := by
  have h1 : acodeK S Tryd.prog C n 96 f5_c (env0 [x0]) H (fin Tryd.prog Tryd.f5) = f5G S C n (fun env H => aloopK (acodeK S Tryd.prog C n 96 (cAt f5_c [1, 1, 1, 1, 1, 1, 1, 0, 1, 0, 0])) n env H (kAt S Tryd.prog C n 96 f5_c [1, 1, 1, 1, 1, 1, 1, 0, 1, 0] (fin Tryd.prog Tryd.f5))) x0 H := by kernel_rfl
  have e0 : (fun env H => aloopK (acodeK S Tryd.prog C n 96 (cAt f5_c [1, 1, 1, 1, 1, 1, 1, 0, 1, 0, 0])) n env H (kAt S Tryd.prog C n 96 f5_c [1, 1, 1, 1, 1, 1, 1, 0, 1, 0] (fin Tryd.prog Tryd.f5))) = (fun env H => f5_L0 S C n n (env 0) (env 3) (env 4) (env 8) (env 12) H) := by funext env H; exact f5_L0_eq S C n n env H
  rw [e0] at h1
  exact h1.trans (by kernel_rfl)


theorem f5_eq {gl : Bool} {E : Ext} (hE : E 5 = none) (n : Nat) (x0 : Value) (H : Heap) : acall Tryd.prog gl E (n + 1) 5 [x0] H = f5 real (acall Tryd.prog gl E n) n x0 H :=
  (acall_eq (N := 96) Tryd.func5 (by kernel_rfl) (by kernel_rfl) hE (okgl f5_c (by kernel_rfl)) (by kernel_rfl)).trans (f5_main real _ n x0 H)

/-! incunable/incunablelaw29.TalkBack -/
noncomputable def f6_c : Code := (Tryd.f6.body).getD .skip

noncomputable def f6 (S : Seam (Value × Heap)) (C : CallF) (n : Nat) (x0 : Value) (x1 : Value) (H : Heap) : Option (Value × Heap) :=
 S.b (newV (Value.cells x0).toList H) fun x2_1 H2 =>
 S.b (newV (Value.cells x1).toList H2) fun x3_3 H4 =>
 S.b (ldA 3 x2_1 H4) fun x14_5 H6 =>
 S.b (C 11 [x14_5] H6) fun x15_7 H8 =>
 S.b (extr 0 x15_7 H8) fun x16_9 H10 =>
 S.b (extr 1 x15_7 H10) fun x17_11 H12 =>
 S.b (C 23 [x16_9] H12) fun x20_13 H14 =>
 S.b (extr 0 x20_13 H14) fun x21_15 H16 =>
 S.b (extr 1 x20_13 H16) fun x22_17 H18 =>
 S.b (newV [(.int .i64 0), (.string ⟨#[]⟩), (.slice none 0 0)] H18) fun x7_19 H20 =>
 S.b (stV 3 x7_19 x21_15 H20) fun _ H21 =>
 S.b (ldA 5 x3_3 H21) fun x24_22 H23 =>
 S.b (C 18 [x24_22] H23) fun x25_24 H25 =>
 S.b (extr 0 x25_24 H25) fun x26_26 H27 =>
 S.b (extr 1 x25_24 H27) fun x27_28 H29 =>
 S.b (C 25 [x26_26] H29) fun x30_30 H31 =>
 S.b (extr 0 x30_30 H31) fun x31_32 H33 =>
 S.b (extr 1 x30_30 H33) fun x32_34 H35 =>
 S.b (newV [(.int .i64 0), (.int .i64 0), (.int .i64 0), (.string ⟨#[]⟩), (.slice none 0 0)] H35) fun x11_36 H37 =>
 S.b (stV 5 x11_36 x31_32 H37) fun _ H38 =>
 S.b (up (binB Tryd.prog .neq 26 x17_11 (.int .i64 0)) H38) fun x34_39 H40 =>
 S.b (gd (wd x34_39 true) (some (x17_11, H40)) H40) fun x36_41 H42 =>
 S.b (gd (wd x34_39 true) (ldA 3 x2_1 H42) H42) fun x37_43 H44 =>
 S.b (gd (wd x34_39 true) (C 14 [x37_43] H44) H44) fun x38_45 H46 =>
 S.b (gd (wd x34_39 true) (up (binB Tryd.prog .neq 26 x36_41 x38_45) H46) H46) fun x39_47 H48 =>
 S.b (gd (wd x34_39 true) (some (x39_47, H48)) H48) fun x40_49 H50 =>
 S.b (gd (wd x40_49 false) (some (x16_9, H50)) H50) fun x41_51 H52 =>
 S.b (gd (wd x40_49 false) (up (lenS x41_51) H52) H52) fun x42_53 H54 =>
 S.b (gd (wd x40_49 false) (up (binB Tryd.prog .neq 3 x42_53 (.int .i64 0)) H54) H54) fun x43_55 H56 =>
 S.b (gd (wd x34_39 true) (pickV x40_49 (.bool true) x43_55 H56) H56) fun x44_57 H58 =>
 S.b (pickV x34_39 x44_57 (.bool false) H58) fun x45_59 H60 =>
 S.b (gd (wd x45_59 false) (some (x17_11, H60)) H60) fun x47_61 H62 =>
 S.b (gd (wd x45_59 false) (up (binB Tryd.prog .eql 26 x47_61 (.int .i64 0)) H62) H62) fun x48_63 H64 =>
 S.b (gd (wd x45_59 false) (some (x48_63, H64)) H64) fun x49_65 H66 =>
 S.b (gd (wd x49_65 true) (some (x22_17, H66)) H66) fun x50_67 H68 =>
 S.b (gd (wd x49_65 true) (up (binB Tryd.prog .neq 26 x50_67 (.int .i64 0)) H68) H68) fun x51_69 H70 =>
 S.b (gd (wd x49_65 true) (some (x51_69, H70)) H70) fun x52_71 H72 =>
 S.b (gd (wd x52_71 false) (ldA 3 x7_19 H72) H72) fun x53_73 H74 =>
 S.b (gd (wd x52_71 false) (ldA 3 x2_1 H74) H74) fun x54_75 H76 =>
 S.b (gd (wd x52_71 false) (C 16 [x53_73, x54_75] H76) H76) fun x55_77 H78 =>
 S.b (gd (wd x52_71 false) (up (unB .not x55_77) H78) H78) fun x56_79 H80 =>
 S.b (gd (wd x49_65 true) (pickV x52_71 (.bool true) x56_79 H80) H80) fun x57_81 H82 =>
 S.b (gd (wd x45_59 false) (pickV x49_65 x57_81 (.bool false) H82) H82) fun x58_83 H84 =>
 S.b (pickV x45_59 (.bool true) x58_83 H84) fun x59_85 H86 =>
 S.i x59_85
 (some ((.bool false), H86))
 (S.b (up (binB Tryd.prog .neq 26 x27_28 (.int .i64 0)) H86) fun x61_87 H88 =>
  S.b (gd (wd x61_87 true) (some (x27_28, H88)) H88) fun x63_89 H90 =>
  S.b (gd (wd x61_87 true) (ldA 5 x3_3 H90) H90) fun x64_91 H92 =>
  S.b (gd (wd x61_87 true) (C 20 [x64_91] H92) H92) fun x65_93 H94 =>
  S.b (gd (wd x61_87 true) (up (binB Tryd.prog .neq 26 x63_89 x65_93) H94) H94) fun x66_95 H96 =>
  S.b (gd (wd x61_87 true) (some (x66_95, H96)) H96) fun x67_97 H98 =>
  S.b (gd (wd x67_97 false) (some (x26_26, H98)) H98) fun x68_99 H100 =>
  S.b (gd (wd x67_97 false) (up (lenS x68_99) H100) H100) fun x69_101 H102 =>
  S.b (gd (wd x67_97 false) (up (binB Tryd.prog .neq 3 x69_101 (.int .i64 0)) H102) H102) fun x70_103 H104 =>
  S.b (gd (wd x61_87 true) (pickV x67_97 (.bool true) x70_103 H104) H104) fun x71_105 H106 =>
  S.b (pickV x61_87 x71_105 (.bool false) H106) fun x72_107 H108 =>
  S.b (gd (wd x72_107 false) (some (x27_28, H108)) H108) fun x74_109 H110 =>
  S.b (gd (wd x72_107 false) (up (binB Tryd.prog .eql 26 x74_109 (.int .i64 0)) H110) H110) fun x75_111 H112 =>
  S.b (gd (wd x72_107 false) (some (x75_111, H112)) H112) fun x76_113 H114 =>
  S.b (gd (wd x76_113 true) (some (x32_34, H114)) H114) fun x77_115 H116 =>
  S.b (gd (wd x76_113 true) (up (binB Tryd.prog .neq 26 x77_115 (.int .i64 0)) H116) H116) fun x78_117 H118 =>
  S.b (gd (wd x76_113 true) (some (x78_117, H118)) H118) fun x79_119 H120 =>
  S.b (gd (wd x79_119 false) (ldA 5 x11_36 H120) H120) fun x80_121 H122 =>
  S.b (gd (wd x79_119 false) (ldA 5 x3_3 H122) H122) fun x81_123 H124 =>
  S.b (gd (wd x79_119 false) (C 22 [x80_121, x81_123] H124) H124) fun x82_125 H126 =>
  S.b (gd (wd x79_119 false) (up (unB .not x82_125) H126) H126) fun x83_127 H128 =>
  S.b (gd (wd x76_113 true) (pickV x79_119 (.bool true) x83_127 H128) H128) fun x84_129 H130 =>
  S.b (gd (wd x72_107 false) (pickV x76_113 x84_129 (.bool false) H130) H130) fun x85_131 H132 =>
  S.b (pickV x72_107 (.bool true) x85_131 H132) fun x86_133 H134 =>
  S.i x86_133
  (some ((.bool false), H134))
  (S.b (C 17 [] H134) fun x87_135 H136 =>
   some (x87_135, H136)))

theorem f6_main (S : Seam (Value × Heap)) (C : CallF) (n : Nat) (x0 : Value) (x1 : Value) (H : Heap) : acodeK S Tryd.prog C n 88 f6_c (env0 [x0, x1]) H (fin Tryd.prog Tryd.f6) = f6 S C n x0 x1 H := by
  kernel_rfl


theorem f6_eq {gl : Bool} {E : Ext} (hE : E 6 = none) (n : Nat) (x0 : Value) (x1 : Value) (H : Heap) : acall Tryd.prog gl E (n + 1) 6 [x0, x1] H = f6 real (acall Tryd.prog gl E n) n x0 x1 H :=
  (acall_eq (N := 88) Tryd.func6 (by kernel_rfl) (by kernel_rfl) hE (okgl f6_c (by kernel_rfl)) (by kernel_rfl)).trans (f6_main real _ n x0 x1 H)

/-! incunable/incunablelaw29.TalkJust -/
noncomputable def f7_c : Code := (Tryd.f7.body).getD .skip

noncomputable def f7_J1 (S : Seam (Value × Heap)) (C : CallF) (n : Nat) (H67 : Heap) : Option (Value × Heap) :=
 S.b (C 17 [] H67) fun x51_68 H69 =>
 some (x51_68, H69)

noncomputable def f7_J2 (S : Seam (Value × Heap)) (C : CallF) (n : Nat) (x0_41 x5_42 x6_43 : Value) (H44 : Heap) : Option (Value × Heap) :=
 S.b (up (binB Tryd.prog .eql 26 x6_43 (.int .i64 0)) H44) fun x37_45 H46 =>
 S.i x37_45
 (S.b (ldA 5 x5_42 H46) fun x39_47 H48 =>
  S.b (C 18 [x39_47] H48) fun x40_49 H50 =>
  S.b (extr 0 x40_49 H50) fun x41_51 H52 =>
  S.b (extr 1 x40_49 H52) fun x42_53 H54 =>
  S.b (up (binB Tryd.prog .neq 26 x42_53 (.int .i64 0)) H54) fun x44_55 H56 =>
  S.b (gd (wd x44_55 false) (some (x41_51, H56)) H56) fun x46_57 H58 =>
  S.b (gd (wd x44_55 false) (some (x0_41, H58)) H58) fun x47_59 H60 =>
  S.b (gd (wd x44_55 false) (C 13 [x46_57, x47_59] H60) H60) fun x48_61 H62 =>
  S.b (gd (wd x44_55 false) (up (unB .not x48_61) H62) H62) fun x49_63 H64 =>
  S.b (pickV x44_55 (.bool true) x49_63 H64) fun x50_65 H66 =>
  S.i x50_65
  (some ((.bool false), H66))
  (f7_J1 S C n H66))
 (f7_J1 S C n H46)

noncomputable def f7 (S : Seam (Value × Heap)) (C : CallF) (n : Nat) (x0 : Value) (H : Heap) : Option (Value × Heap) :=
 S.b (C 23 [x0] H) fun x13_1 H2 =>
 S.b (extr 0 x13_1 H2) fun x14_3 H4 =>
 S.b (extr 1 x13_1 H4) fun x15_5 H6 =>
 S.b (newV [(.int .i64 0), (.string ⟨#[]⟩), (.slice none 0 0)] H6) fun x3_7 H8 =>
 S.b (stV 3 x3_7 x14_3 H8) fun _ H9 =>
 S.b (C 25 [x0] H9) fun x18_10 H11 =>
 S.b (extr 0 x18_10 H11) fun x19_12 H13 =>
 S.b (extr 1 x18_10 H13) fun x20_14 H15 =>
 S.b (newV [(.int .i64 0), (.int .i64 0), (.int .i64 0), (.string ⟨#[]⟩), (.slice none 0 0)] H15) fun x5_16 H17 =>
 S.b (stV 5 x5_16 x19_12 H17) fun _ H18 =>
 S.b (up (binB Tryd.prog .eql 26 x15_5 (.int .i64 0)) H18) fun x22_19 H20 =>
 S.i x22_19
 (S.b (ldA 3 x3_7 H20) fun x24_21 H22 =>
  S.b (C 11 [x24_21] H22) fun x25_23 H24 =>
  S.b (extr 0 x25_23 H24) fun x26_25 H26 =>
  S.b (extr 1 x25_23 H26) fun x27_27 H28 =>
  S.b (up (binB Tryd.prog .neq 26 x27_27 (.int .i64 0)) H28) fun x29_29 H30 =>
  S.b (gd (wd x29_29 false) (some (x26_25, H30)) H30) fun x31_31 H32 =>
  S.b (gd (wd x29_29 false) (some (x0, H32)) H32) fun x32_33 H34 =>
  S.b (gd (wd x29_29 false) (C 13 [x31_31, x32_33] H34) H34) fun x33_35 H36 =>
  S.b (gd (wd x29_29 false) (up (unB .not x33_35) H36) H36) fun x34_37 H38 =>
  S.b (pickV x29_29 (.bool true) x34_37 H38) fun x35_39 H40 =>
  S.i x35_39
  (some ((.bool false), H40))
  (f7_J2 S C n x0 x5_16 x20_14 H40))
 (f7_J2 S C n x0 x5_16 x20_14 H20)

theorem f7_main (S : Seam (Value × Heap)) (C : CallF) (n : Nat) (x0 : Value) (H : Heap) : acodeK S Tryd.prog C n 52 f7_c (env0 [x0]) H (fin Tryd.prog Tryd.f7) = f7 S C n x0 H := by
  kernel_rfl


theorem f7_eq {gl : Bool} {E : Ext} (hE : E 7 = none) (n : Nat) (x0 : Value) (H : Heap) : acall Tryd.prog gl E (n + 1) 7 [x0] H = f7 real (acall Tryd.prog gl E n) n x0 H :=
  (acall_eq (N := 52) Tryd.func7 (by kernel_rfl) (by kernel_rfl) hE (okgl f7_c (by kernel_rfl)) (by kernel_rfl)).trans (f7_main real _ n x0 H)

/-! incunable/incunablelaw29.TalkCut -/
noncomputable def f8_c : Code := (Tryd.f8.body).getD .skip

noncomputable def f8_J1 (S : Seam (Value × Heap)) (C : CallF) (n : Nat) (H151 : Heap) : Option (Value × Heap) :=
 S.b (C 17 [] H151) fun x111_152 H153 =>
 some (x111_152, H153)

noncomputable def f8_J2 (S : Seam (Value × Heap)) (C : CallF) (n : Nat) (x2_122 x9_123 x10_124 : Value) (H125 : Heap) : Option (Value × Heap) :=
 S.b (up (lenS x2_122) H125) fun x95_126 H127 =>
 S.b (up (binB Tryd.prog .gtr 3 x95_126 (.int .i64 0)) H127) fun x96_128 H129 =>
 S.b (gd (wd x96_128 true) (some (x10_124, H129)) H129) fun x98_130 H131 =>
 S.b (gd (wd x96_128 true) (up (binB Tryd.prog .eql 26 x98_130 (.int .i64 0)) H131) H131) fun x99_132 H133 =>
 S.b (pickV x96_128 x99_132 (.bool false) H133) fun x100_134 H135 =>
 S.i x100_134
 (S.b (C 10 [x9_123] H135) fun x103_136 H137 =>
  S.b (app 1 1 x103_136 x2_122 H137) fun x105_138 H139 =>
  S.b (C 25 [x105_138] H139) fun x106_140 H141 =>
  S.b (extr 0 x106_140 H141) fun x107_142 H143 =>
  S.b (extr 1 x106_140 H143) fun x108_144 H145 =>
  S.b (newV [(.int .i64 0), (.int .i64 0), (.int .i64 0), (.string ⟨#[]⟩), (.slice none 0 0)] H145) fun x19_146 H147 =>
  S.b (stV 5 x19_146 x107_142 H147) fun _ H148 =>
  S.b (up (binB Tryd.prog .neq 26 x108_144 (.int .i64 290)) H148) fun x110_149 H150 =>
  S.i x110_149
  (some ((.bool false), H150))
  (f8_J1 S C n H150))
 (f8_J1 S C n H135)

noncomputable def f8_L1 (S : Seam (Value × Heap)) (C : CallF) (n : Nat) : Nat → Value → Value → Value → Value → Value → Value → Heap → Option (Value × Heap)
 | 0, _, _, _, _, _, _, _ => none
 | m + 1, x2_59, x7_60, x8_61, x9_62, x10_63, x14_64, H65 =>
   S.b (up (lenS x9_62) H65) fun x56_66 H67 =>
   S.b (up (binB Tryd.prog .lss 3 x14_64 x56_66) H67) fun x57_68 H69 =>
   S.b (gd (wd x57_68 true) (some (x14_64, H69)) H69) fun x59_70 H71 =>
   S.b (gd (wd x57_68 true) (up (binB Tryd.prog .lss 3 x59_70 (.int .i64 1000)) H71) H71) fun x60_72 H73 =>
   S.b (pickV x57_68 x60_72 (.bool false) H73) fun x61_74 H75 =>
   S.b (gd (wd x61_74 true) (some (x10_63, H75)) H75) fun x63_76 H77 =>
   S.b (gd (wd x61_74 true) (up (binB Tryd.prog .eql 26 x63_76 (.int .i64 0)) H77) H77) fun x64_78 H79 =>
   S.b (pickV x61_74 x64_78 (.bool false) H79) fun x65_80 H81 =>
   S.i x65_80
   (S.b (up (slcS 1 x9_62 none (some x14_64) none) H81) fun x71_82 H83 =>
    S.b (C 25 [x71_82] H83) fun x72_84 H85 =>
    S.b (extr 0 x72_84 H85) fun x73_86 H87 =>
    S.b (extr 1 x72_84 H87) fun x74_88 H89 =>
    S.b (newV [(.int .i64 0), (.int .i64 0), (.int .i64 0), (.string ⟨#[]⟩), (.slice none 0 0)] H89) fun x15_90 H91 =>
    S.b (stV 5 x15_90 x73_86 H91) fun _ H92 =>
    S.b (up (binB Tryd.prog .neq 26 x74_88 (.int .i64 290)) H92) fun x76_93 H94 =>
    S.i x76_93
    (some ((.bool false), H94))
    (S.b (up (binB Tryd.prog .add 3 x14_64 (.int .i64 1)) H94) fun x67_95 H96 =>
     f8_L1 S C n m x2_59 x7_60 x8_61 x9_62 x10_63 x67_95 H96))
   (S.b (up (lenS x2_59) H81) fun x78_97 H98 =>
    S.b (up (binB Tryd.prog .gtr 3 x78_97 (.int .i64 0)) H98) fun x79_99 H100 =>
    S.b (gd (wd x79_99 true) (some (x8_61, H100)) H100) fun x81_101 H102 =>
    S.b (gd (wd x79_99 true) (up (binB Tryd.prog .eql 26 x81_101 (.int .i64 0)) H102) H102) fun x82_103 H104 =>
    S.b (pickV x79_99 x82_103 (.bool false) H104) fun x83_105 H106 =>
    S.i x83_105
    (S.b (C 10 [x7_60] H106) fun x86_107 H108 =>
     S.b (app 1 1 x86_107 x2_59 H108) fun x88_109 H110 =>
     S.b (C 23 [x88_109] H110) fun x89_111 H112 =>
     S.b (extr 0 x89_111 H112) fun x90_113 H114 =>
     S.b (extr 1 x89_111 H114) fun x91_115 H116 =>
     S.b (newV [(.int .i64 0), (.string ⟨#[]⟩), (.slice none 0 0)] H116) fun x17_117 H118 =>
     S.b (stV 3 x17_117 x90_113 H118) fun _ H119 =>
     S.b (up (binB Tryd.prog .neq 26 x91_115 (.int .i64 290)) H119) fun x93_120 H121 =>
     S.i x93_120
     (some ((.bool false), H121))
     (f8_J2 S C n x2_59 x9_62 x10_63 H121))
    (f8_J2 S C n x2_59 x9_62 x10_63 H106))

theorem f8_L1_eq (S : Seam (Value × Heap)) (C : CallF) (n : Nat) : ∀ (m : Nat) (env : Env) (H : Heap), aloopK (acodeK S Tryd.prog C n 112 (cAt f8_c [1, 1, 1, 1, 0, 1, 0, 0])) m env H (kAt S Tryd.prog C n 112 f8_c [1, 1, 1, 1, 0, 1, 0] (fin Tryd.prog Tryd.f8)) = f8_L1 S C n m (env 2) (env 7) (env 8) (env 9) (env 10) (env 14) H := by
  intro m env H
  refine aloopK_eq (L := fun m env H => f8_L1 S C n m (env 2) (env 7) (env 8) (env 9) (env 10) (env 14) H) (fun env H => rfl) (fun m env H => ?_) m env H
  kernel_rfl


noncomputable def f8_L0 (S : Seam (Value × Heap)) (C : CallF) (n : Nat) : Nat → Value → Value → Value → Value → Value → Value → Heap → Option (Value × Heap)
 | 0, _, _, _, _, _, _, _ => none
 | m + 1, x2_21, x7_22, x8_23, x9_24, x10_25, x11_26, H27 =>
   S.b (up (lenS x7_22) H27) fun x33_28 H29 =>
   S.b (up (binB Tryd.prog .lss 3 x11_26 x33_28) H29) fun x34_30 H31 =>
   S.b (gd (wd x34_30 true) (some (x11_26, H31)) H31) fun x36_32 H33 =>
   S.b (gd (wd x34_30 true) (up (binB Tryd.prog .lss 3 x36_32 (.int .i64 1000)) H33) H33) fun x37_34 H35 =>
   S.b (pickV x34_30 x37_34 (.bool false) H35) fun x38_36 H37 =>
   S.b (gd (wd x38_36 true) (some (x8_23, H37)) H37) fun x40_38 H39 =>
   S.b (gd (wd x38_36 true) (up (binB Tryd.prog .eql 26 x40_38 (.int .i64 0)) H39) H39) fun x41_40 H41 =>
   S.b (pickV x38_36 x41_40 (.bool false) H41) fun x42_42 H43 =>
   S.i x42_42
   (S.b (up (slcS 1 x7_22 none (some x11_26) none) H43) fun x48_44 H45 =>
    S.b (C 23 [x48_44] H45) fun x49_46 H47 =>
    S.b (extr 0 x49_46 H47) fun x50_48 H49 =>
    S.b (extr 1 x49_46 H49) fun x51_50 H51 =>
    S.b (newV [(.int .i64 0), (.string ⟨#[]⟩), (.slice none 0 0)] H51) fun x12_52 H53 =>
    S.b (stV 3 x12_52 x50_48 H53) fun _ H54 =>
    S.b (up (binB Tryd.prog .neq 26 x51_50 (.int .i64 290)) H54) fun x53_55 H56 =>
    S.i x53_55
    (some ((.bool false), H56))
    (S.b (up (binB Tryd.prog .add 3 x11_26 (.int .i64 1)) H56) fun x44_57 H58 =>
     f8_L0 S C n m x2_21 x7_22 x8_23 x9_24 x10_25 x44_57 H58))
   (f8_L1 S C n n x2_21 x7_22 x8_23 x9_24 x10_25 (.int .i64 0) H43)

noncomputable def f8_L0G (S : Seam (Value × Heap)) (C : CallF) (n : Nat) (R0 : Value→Value→Value→Value→Value→Value→Heap→Option (Value × Heap)) (P1 : Env → Heap → Option (Value × Heap)) (env : Env) (H : Heap) : Option (Value × Heap) :=
 S.b (up (lenS (env 7)) H) fun x33_154 H155 =>
 S.b (up (binB Tryd.prog .lss 3 (env 11) x33_154) H155) fun x34_156 H157 =>
 S.b (gd (wd x34_156 true) (some ((env 11), H157)) H157) fun x36_158 H159 =>
 S.b (gd (wd x34_156 true) (up (binB Tryd.prog .lss 3 x36_158 (.int .i64 1000)) H159) H159) fun x37_160 H161 =>
 S.b (pickV x34_156 x37_160 (.bool false) H161) fun x38_162 H163 =>
 S.b (gd (wd x38_162 true) (some ((env 8), H163)) H163) fun x40_164 H165 =>
 S.b (gd (wd x38_162 true) (up (binB Tryd.prog .eql 26 x40_164 (.int .i64 0)) H165) H165) fun x41_166 H167 =>
 S.b (pickV x38_162 x41_166 (.bool false) H167) fun x42_168 H169 =>
 S.i x42_168
 (S.b (up (slcS 1 (env 7) none (some (env 11)) none) H169) fun x48_170 H171 =>
  S.b (C 23 [x48_170] H171) fun x49_172 H173 =>
  S.b (extr 0 x49_172 H173) fun x50_174 H175 =>
  S.b (extr 1 x49_172 H175) fun x51_176 H177 =>
  S.b (newV [(.int .i64 0), (.string ⟨#[]⟩), (.slice none 0 0)] H177) fun x12_178 H179 =>
  S.b (stV 3 x12_178 x50_174 H179) fun u180 H181 =>
  S.b (up (binB Tryd.prog .neq 26 x51_176 (.int .i64 290)) H181) fun x53_182 H183 =>
  S.i x53_182
  (some ((.bool false), H183))
  (S.b (up (binB Tryd.prog .add 3 (env 11) (.int .i64 1)) H183) fun x44_184 H185 =>
   R0 (env 2) (env 7) (env 8) (env 9) (env 10) x44_184 H185))
 (P1 (putE 112 (putE 112 (putE 112 (putE 112 (putE 112 (putE 112 (putE 112 (putE 112 (putE 112 (putE 112 (putE 112 (putE 112 (putE 112 env (some 31) (env 11)) (some 32) (env 7)) (some 33) x33_154) (some 34) x34_156) (some 35) x34_156) (some 36) x36_158) (some 37) x37_160) (some 38) x38_162) (some 39) x38_162) (some 40) x40_164) (some 41) x41_166) (some 42) x42_168) (some 14) (.int .i64 0)) H169)

theorem f8_L0_eq (S : Seam (Value × Heap)) (C : CallF) (n : Nat) : ∀ (m : Nat) (env : Env) (H : Heap), aloopK (acodeK S Tryd.prog C n 112 (cAt f8_c [1, 1, 1, 0, 1, 0, 0])) m env H (kAt S Tryd.prog C n 112 f8_c [1, 1, 1, 0, 1, 0] (fin Tryd.prog Tryd.f8)) = f8_L0 S C n m (env 2) (env 7) (env 8) (env 9) (env 10) (env 11) H := by
  intro m env H
  refine aloopK_eq (L := fun m env H => f8_L0 S C n m (env 2) (env 7) (env 8) (env 9) (env 10) (env 11) H) (fun env H => rfl) (fun m env H => ?_) m env H
  have h1 : acodeK S Tryd.prog C n 112 (cAt f8_c [1, 1, 1, 0, 1, 0, 0]) env H (onNormal (fun env' H' => f8_L0 S C n m (env' 2) (env' 7) (env' 8) (env' 9) (env' 10) (env' 11) H') (kAt S Tryd.prog C n 112 f8_c [1, 1, 1, 0, 1, 0] (fin Tryd.prog Tryd.f8))) = f8_L0G S C n (f8_L0 S C n m) (fun env H => aloopK (acodeK S Tryd.prog C n 112 (cAt f8_c [1, 1, 1, 1, 0, 1, 0, 0])) n env H (kAt S Tryd.prog C n 112 f8_c [1, 1, 1, 1, 0, 1, 0] (fin Tryd.prog Tryd.f8))) env H := by kernel_rfl
  have e0 : (fun env H => aloopK (acodeK S Tryd.prog C n 112 (cAt f8_c [1, 1, 1, 1, 0, 1, 0, 0])) n env H (kAt S Tryd.prog C n 112 f8_c [1, 1, 1, 1, 0, 1, 0] (fin Tryd.prog Tryd.f8))) = (fun env H => f8_L1 S C n n (env 2) (env 7) (env 8) (env 9) (env 10) (env 14) H) := by funext env H; exact f8_L1_eq S C n n env H
  rw [e0] at h1
  exact h1.trans (by kernel_rfl)


noncomputable def f8 (S : Seam (Value × Heap)) (C : CallF) (n : Nat) (x0 : Value) (x1 : Value) (x2 : Value) (H : Heap) : Option (Value × Heap) :=
 S.b (newV (Value.cells x0).toList H) fun x3_1 H2 =>
 S.b (newV (Value.cells x1).toList H2) fun x4_3 H4 =>
 S.b (ldA 3 x3_1 H4) fun x22_5 H6 =>
 S.b (C 11 [x22_5] H6) fun x23_7 H8 =>
 S.b (extr 0 x23_7 H8) fun x24_9 H10 =>
 S.b (extr 1 x23_7 H10) fun x25_11 H12 =>
 S.b (ldA 5 x4_3 H12) fun x27_13 H14 =>
 S.b (C 18 [x27_13] H14) fun x28_15 H16 =>
 S.b (extr 0 x28_15 H16) fun x29_17 H18 =>
 S.b (extr 1 x28_15 H18) fun x30_19 H20 =>
 f8_L0 S C n n x2 x24_9 x25_11 x29_17 x30_19 (.int .i64 0) H20

noncomputable def f8G (S : Seam (Value × Heap)) (C : CallF) (n : Nat) (P0 : Env → Heap → Option (Value × Heap)) (x0 : Value) (x1 : Value) (x2 : Value) (H : Heap) : Option (Value × Heap) :=
 S.b (newV (Value.cells x0).toList H) fun x3_186 H187 =>
 S.b (newV (Value.cells x1).toList H187) fun x4_188 H189 =>
 S.b (ldA 3 x3_186 H189) fun x22_190 H191 =>
 S.b (C 11 [x22_190] H191) fun x23_192 H193 =>
 S.b (extr 0 x23_192 H193) fun x24_194 H195 =>
 S.b (extr 1 x23_192 H195) fun x25_196 H197 =>
 S.b (ldA 5 x4_188 H197) fun x27_198 H199 =>
 S.b (C 18 [x27_198] H199) fun x28_200 H201 =>
 S.b (extr 0 x28_200 H201) fun x29_202 H203 =>
 S.b (extr 1 x28_200 H203) fun x30_204 H205 =>
 P0 (putE 112 (putE 112 (putE 112 (putE 112 (putE 112 (putE 112 (putE 112 (putE 112 (putE 112 (putE 112 (putE 112 (putE 112 (putE 112 (putE 112 (putE 112 (putE 112 (putE 112 (putE 112 (env0 [x0, x1, x2]) (some 3) x3_186) (some 4) x4_188) (some 6) (.bool false)) (some 22) x22_190) (some 23) x23_192) (some 21) x23_192) (some 24) x24_194) (some 25) x25_196) (some 7) x24_194) (some 8) x25_196) (some 27) x27_198) (some 28) x28_200) (some 26) x28_200) (some 29) x29_202) (some 30) x30_204) (some 9) x29_202) (some 10) x30_204) (some 11) (.int .i64 0)) H205

theorem f8_main (S : Seam (Value × Heap)) (C : CallF) (n : Nat) (x0 : Value) (x1 : Value) (x2 : Value) (H : Heap) : acodeK S Tryd.prog C n 112 f8_c (env0 [x0, x1, x2]) H (fin Tryd.prog Tryd.f8) = f8 S C n x0 x1 x2 H := by
  have h1 : acodeK S Tryd.prog C n 112 f8_c (env0 [x0, x1, x2]) H (fin Tryd.prog Tryd.f8) = f8G S C n (fun env H => aloopK (acodeK S Tryd.prog C n 112 (cAt f8_c [1, 1, 1, 0, 1, 0, 0])) n env H (kAt S Tryd.prog C n 112 f8_c [1, 1, 1, 0, 1, 0] (fin Tryd.prog Tryd.f8))) x0 x1 x2 H := by kernel_rfl
  have e0 : (fun env H => aloopK (acodeK S Tryd.prog C n 112 (cAt f8_c [1, 1, 1, 0, 1, 0, 0])) n env H (kAt S Tryd.prog C n 112 f8_c [1, 1, 1, 0, 1, 0] (fin Tryd.prog Tryd.f8))) = (fun env H => f8_L0 S C n n (env 2) (env 7) (env 8) (env 9) (env 10) (env 11) H) := by funext env H; exact f8_L0_eq S C n n env H
  rw [e0] at h1
  exact h1.trans (by kernel_rfl)


theorem f8_eq {gl : Bool} {E : Ext} (hE : E 8 = none) (n : Nat) (x0 : Value) (x1 : Value) (x2 : Value) (H : Heap) : acall Tryd.prog gl E (n + 1) 8 [x0, x1, x2] H = f8 real (acall Tryd.prog gl E n) n x0 x1 x2 H :=
  (acall_eq (N := 112) Tryd.func8 (by kernel_rfl) (by kernel_rfl) hE (okgl f8_c (by kernel_rfl)) (by kernel_rfl)).trans (f8_main real _ n x0 x1 x2 H)

end Go.Eng
