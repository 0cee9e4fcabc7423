/- The functions, printed. -/
import Derived.Test.YtjnpiaigiljpjaaProg
import Derived.Test.YtjnpiaigiljpjaaEngT
import Derived.KernelRfl
set_option linter.unusedVariables false
set_option maxRecDepth 100000
namespace Go.Eng
open Go Go.Proofs

/-! incunable/varnum.Num -/
noncomputable def f48_c : Code := (Try.f48.body).getD .skip

noncomputable def f48_L0 (S : Seam (Value × Heap)) (C : CallF) (n : Nat) : Nat → Value → Value → Heap → Option (Value × Heap)
 | 0, _, _, _ => none
 | m + 1, x0_9, x4_10, H11 =>
   S.b (up (binB Try.prog .geq 3 x0_9 (.int .i64 128)) H11) fun x12_12 H13 =>
   S.i x12_12
   (S.b (cvI .u8 x0_9 H13) fun x17_14 H15 =>
    S.b (up (binB Try.prog .or 5 x17_14 (.int .u8 128)) H15) fun x18_16 H17 =>
    S.b (bldS 1 1 [(.int .u8 0)] [(0, 1, x18_16)] H17) fun x19_18 H19 =>
    S.b (app 1 1 x4_10 x19_18 H19) fun x20_20 H21 =>
    S.b (up (binB Try.prog .shr 3 x0_9 (.int .u64 7)) H21) fun x14_22 H23 =>
    f48_L0 S C n m x14_22 x20_20 H23)
   (S.b (cvI .u8 x0_9 H13) fun x23_24 H25 =>
    S.b (bldS 1 1 [(.int .u8 0)] [(0, 1, x23_24)] H25) fun x24_26 H27 =>
    S.b (app 1 1 x4_10 x24_26 H27) fun x25_28 H29 =>
    some (.tuple #[x25_28, (.int .i64 0)], H29))

theorem f48_L0_eq (S : Seam (Value × Heap)) (C : CallF) (n : Nat) : ∀ (m : Nat) (env : Env) (H : Heap), aloopK (acodeK S Try.prog C n 26 (cAt f48_c [1, 1, 1, 0, 0, 0])) m env H (kAt S Try.prog C n 26 f48_c [1, 1, 1, 0, 0] (fin Try.prog Try.f48)) = f48_L0 S C n m (env 0) (env 4) H := by
  intro m env H
  refine aloopK_eq (L := fun m env H => f48_L0 S C n m (env 0) (env 4) H) (fun env H => rfl) (fun m env H => ?_) m env H
  kernel_rfl


noncomputable def f48 (S : Seam (Value × Heap)) (C : CallF) (n : Nat) (x0 : Value) (H : Heap) : Option (Value × Heap) :=
 S.b (up (binB Try.prog .lss 3 x0 (.int .i64 0)) H) fun x6_1 H2 =>
 S.b (gd (wd x6_1 false) (some (x0, H2)) H2) fun x8_3 H4 =>
 S.b (gd (wd x6_1 false) (up (binB Try.prog .gtr 3 x8_3 (.int .i64 9007199254740991)) H4) H4) fun x9_5 H6 =>
 S.b (pickV x6_1 (.bool true) x9_5 H6) fun x10_7 H8 =>
 S.i x10_7
 (some (.tuple #[(.slice none 0 0), (.int .i64 2)], H8))
 (f48_L0 S C n n x0 (.slice none 0 0) H8)

noncomputable def f48G (S : Seam (Value × Heap)) (C : CallF) (n : Nat) (P0 : Env → Heap → Option (Value × Heap)) (x0 : Value) (H : Heap) : Option (Value × Heap) :=
 S.b (up (binB Try.prog .lss 3 x0 (.int .i64 0)) H) fun x6_30 H31 =>
 S.b (gd (wd x6_30 false) (some (x0, H31)) H31) fun x8_32 H33 =>
 S.b (gd (wd x6_30 false) (up (binB Try.prog .gtr 3 x8_32 (.int .i64 9007199254740991)) H33) H33) fun x9_34 H35 =>
 S.b (pickV x6_30 (.bool true) x9_34 H35) fun x10_36 H37 =>
 S.i x10_36
 (some (.tuple #[(.slice none 0 0), (.int .i64 2)], H37))
 (P0 (putE 26 (putE 26 (putE 26 (putE 26 (putE 26 (putE 26 (putE 26 (putE 26 (putE 26 (env0 [x0]) (some 2) (.slice none 0 0)) (some 3) (.int .i64 0)) (some 5) x0) (some 6) x6_30) (some 7) x6_30) (some 8) x8_32) (some 9) x9_34) (some 10) x10_36) (some 4) (.slice none 0 0)) H37)

theorem f48_main (S : Seam (Value × Heap)) (C : CallF) (n : Nat) (x0 : Value) (H : Heap) : acodeK S Try.prog C n 26 f48_c (env0 [x0]) H (fin Try.prog Try.f48) = f48 S C n x0 H := by
  have h1 : acodeK S Try.prog C n 26 f48_c (env0 [x0]) H (fin Try.prog Try.f48) = f48G S C n (fun env H => aloopK (acodeK S Try.prog C n 26 (cAt f48_c [1, 1, 1, 0, 0, 0])) n env H (kAt S Try.prog C n 26 f48_c [1, 1, 1, 0, 0] (fin Try.prog Try.f48))) x0 H := by kernel_rfl
  have e0 : (fun env H => aloopK (acodeK S Try.prog C n 26 (cAt f48_c [1, 1, 1, 0, 0, 0])) n env H (kAt S Try.prog C n 26 f48_c [1, 1, 1, 0, 0] (fin Try.prog Try.f48))) = (fun env H => f48_L0 S C n n (env 0) (env 4) H) := by funext env H; exact f48_L0_eq S C n n env H
  rw [e0] at h1
  exact h1.trans (by kernel_rfl)


theorem f48_eq {gl : Bool} {E : Ext} (hE : E 48 = none) (n : Nat) (x0 : Value) (H : Heap) : acall Try.prog gl E (n + 1) 48 [x0] H = f48 real (acall Try.prog gl E n) n x0 H :=
  (acall_eq (N := 26) Try.func48 (by kernel_rfl) (by kernel_rfl) hE (okgl f48_c (by kernel_rfl)) (by kernel_rfl)).trans (f48_main real _ n x0 H)

/-! incunable/incunableref01.Num -/
noncomputable def f47_c : Code := (Try.f47.body).getD .skip

noncomputable def f47_L0 (S : Seam (Value × Heap)) (C : CallF) (n : Nat) : Nat → Value → Value → Heap → Option (Value × Heap)
 | 0, _, _, _ => none
 | m + 1, x0_17, x4_18, H19 =>
   S.b (up (binB Try.prog .gtr 3 x0_17 (.int .i64 0)) H19) fun x18_20 H21 =>
   S.i x18_20
   (S.b (up (lenS x4_18) H21) fun x23_22 H23 =>
    S.b (up (binB Try.prog .sub 3 x23_22 (.int .i64 1)) H23) fun x24_24 H25 =>
    S.b (up (lenS x4_18) H25) fun x27_26 H27 =>
    S.b (up (binB Try.prog .sub 3 x27_26 (.int .i64 1)) H27) fun x28_28 H29 =>
    S.b (up (iAddrS 1 x4_18 x28_28) H29) fun x29_30 H31 =>
    S.b (ldC x29_30 H31) fun x30_32 H33 =>
    S.b (up (binB Try.prog .add 5 x30_32 (.int .u8 128)) H33) fun x31_34 H35 =>
    S.b (up (iAddrS 1 x4_18 x24_24) H35) fun x32_36 H37 =>
    S.b (stV 1 x32_36 x31_34 H37) fun _ H38 =>
    S.b (up (binB Try.prog .rem 3 x0_17 (.int .i64 128)) H38) fun x35_39 H40 =>
    S.b (cvI .u8 x35_39 H40) fun x36_41 H42 =>
    S.b (bldS 1 1 [(.int .u8 0)] [(0, 1, x36_41)] H42) fun x37_43 H44 =>
    S.b (app 1 1 x4_18 x37_43 H44) fun x38_45 H46 =>
    S.b (up (binB Try.prog .quo 3 x0_17 (.int .i64 128)) H46) fun x20_47 H48 =>
    f47_L0 S C n m x20_47 x38_45 H48)
   (some (.tuple #[x4_18, (.int .i64 0)], H21))

theorem f47_L0_eq (S : Seam (Value × Heap)) (C : CallF) (n : Nat) : ∀ (m : Nat) (env : Env) (H : Heap), aloopK (acodeK S Try.prog C n 40 (cAt f47_c [1, 1, 1, 0, 1, 0, 0])) m env H (kAt S Try.prog C n 40 f47_c [1, 1, 1, 0, 1, 0] (fin Try.prog Try.f47)) = f47_L0 S C n m (env 0) (env 4) H := by
  intro m env H
  refine aloopK_eq (L := fun m env H => f47_L0 S C n m (env 0) (env 4) H) (fun env H => rfl) (fun m env H => ?_) m env H
  kernel_rfl


noncomputable def f47 (S : Seam (Value × Heap)) (C : CallF) (n : Nat) (x0 : Value) (H : Heap) : Option (Value × Heap) :=
 S.b (up (binB Try.prog .lss 3 x0 (.int .i64 0)) H) fun x6_1 H2 =>
 S.b (gd (wd x6_1 false) (some (x0, H2)) H2) fun x8_3 H4 =>
 S.b (gd (wd x6_1 false) (up (binB Try.prog .gtr 3 x8_3 (.int .i64 9007199254740991)) H4) H4) fun x9_5 H6 =>
 S.b (pickV x6_1 (.bool true) x9_5 H6) fun x10_7 H8 =>
 S.i x10_7
 (some (.tuple #[(.slice none 0 0), (.int .i64 2)], H8))
 (S.b (up (binB Try.prog .rem 3 x0 (.int .i64 128)) H8) fun x12_9 H10 =>
  S.b (cvI .u8 x12_9 H10) fun x13_11 H12 =>
  S.b (bldS 1 1 [(.int .u8 0)] [(0, 1, x13_11)] H12) fun x14_13 H14 =>
  S.b (up (binB Try.prog .quo 3 x0 (.int .i64 128)) H14) fun x16_15 H16 =>
  f47_L0 S C n n x16_15 x14_13 H16)

noncomputable def f47G (S : Seam (Value × Heap)) (C : CallF) (n : Nat) (P0 : Env → Heap → Option (Value × Heap)) (x0 : Value) (H : Heap) : Option (Value × Heap) :=
 S.b (up (binB Try.prog .lss 3 x0 (.int .i64 0)) H) fun x6_49 H50 =>
 S.b (gd (wd x6_49 false) (some (x0, H50)) H50) fun x8_51 H52 =>
 S.b (gd (wd x6_49 false) (up (binB Try.prog .gtr 3 x8_51 (.int .i64 9007199254740991)) H52) H52) fun x9_53 H54 =>
 S.b (pickV x6_49 (.bool true) x9_53 H54) fun x10_55 H56 =>
 S.i x10_55
 (some (.tuple #[(.slice none 0 0), (.int .i64 2)], H56))
 (S.b (up (binB Try.prog .rem 3 x0 (.int .i64 128)) H56) fun x12_57 H58 =>
  S.b (cvI .u8 x12_57 H58) fun x13_59 H60 =>
  S.b (bldS 1 1 [(.int .u8 0)] [(0, 1, x13_59)] H60) fun x14_61 H62 =>
  S.b (up (binB Try.prog .quo 3 x0 (.int .i64 128)) H62) fun x16_63 H64 =>
  P0 (putE 40 (putE 40 (putE 40 (putE 40 (putE 40 (putE 40 (putE 40 (putE 40 (putE 40 (putE 40 (putE 40 (putE 40 (putE 40 (putE 40 (putE 40 (putE 40 (env0 [x0]) (some 2) (.slice none 0 0)) (some 3) (.int .i64 0)) (some 5) x0) (some 6) x6_49) (some 7) x6_49) (some 8) x8_51) (some 9) x9_53) (some 10) x10_55) (some 11) x0) (some 12) x12_57) (some 13) x13_59) (some 14) x14_61) (some 4) x14_61) (some 15) x0) (some 16) x16_63) (some 0) x16_63) H64)

theorem f47_main (S : Seam (Value × Heap)) (C : CallF) (n : Nat) (x0 : Value) (H : Heap) : acodeK S Try.prog C n 40 f47_c (env0 [x0]) H (fin Try.prog Try.f47) = f47 S C n x0 H := by
  have h1 : acodeK S Try.prog C n 40 f47_c (env0 [x0]) H (fin Try.prog Try.f47) = f47G S C n (fun env H => aloopK (acodeK S Try.prog C n 40 (cAt f47_c [1, 1, 1, 0, 1, 0, 0])) n env H (kAt S Try.prog C n 40 f47_c [1, 1, 1, 0, 1, 0] (fin Try.prog Try.f47))) x0 H := by kernel_rfl
  have e0 : (fun env H => aloopK (acodeK S Try.prog C n 40 (cAt f47_c [1, 1, 1, 0, 1, 0, 0])) n env H (kAt S Try.prog C n 40 f47_c [1, 1, 1, 0, 1, 0] (fin Try.prog Try.f47))) = (fun env H => f47_L0 S C n n (env 0) (env 4) H) := by funext env H; exact f47_L0_eq S C n n env H
  rw [e0] at h1
  exact h1.trans (by kernel_rfl)


theorem f47_eq {gl : Bool} {E : Ext} (hE : E 47 = none) (n : Nat) (x0 : Value) (H : Heap) : acall Try.prog gl E (n + 1) 47 [x0] H = f47 real (acall Try.prog gl E n) n x0 H :=
  (acall_eq (N := 40) Try.func47 (by kernel_rfl) (by kernel_rfl) hE (okgl f47_c (by kernel_rfl)) (by kernel_rfl)).trans (f47_main real _ n x0 H)

/-! incunable/keys.begin -/
noncomputable def f30_c : Code := (Try.f30.body).getD .skip

noncomputable def f30 (S : Seam (Value × Heap)) (C : CallF) (n : Nat) (x0 : Value) (H : Heap) : Option (Value × Heap) :=
 S.b (bld [(.slice none 0 0), (.int .i64 0)] [] H) fun x3_1 H2 =>
 S.b (newV (Value.cells x3_1).toList H2) fun x4_3 H4 =>
 S.b (bldS 1 1 [(.int .i64 0)] [(0, 1, x0)] H4) fun x6_5 H6 =>
 S.b (C 36 [x4_3, x6_5] H6) fun x7_7 H8 =>
 some (x7_7, H8)

theorem f30_main (S : Seam (Value × Heap)) (C : CallF) (n : Nat) (x0 : Value) (H : Heap) : acodeK S Try.prog C n 8 f30_c (env0 [x0]) H (fin Try.prog Try.f30) = f30 S C n x0 H := by
  kernel_rfl


theorem f30_eq {gl : Bool} {E : Ext} (hE : E 30 = none) (n : Nat) (x0 : Value) (H : Heap) : acall Try.prog gl E (n + 1) 30 [x0] H = f30 real (acall Try.prog gl E n) n x0 H :=
  (acall_eq (N := 8) Try.func30 (by kernel_rfl) (by kernel_rfl) hE (okgl f30_c (by kernel_rfl)) (by kernel_rfl)).trans (f30_main real _ n x0 H)

/-! (*incunable/keys.key).text -/
noncomputable def f31_c : Code := (Try.f31.body).getD .skip

noncomputable def f31 (S : Seam (Value × Heap)) (C : CallF) (n : Nat) (x0 : Value) (x1 : Value) (H : Heap) : Option (Value × Heap) :=
 S.b (up (lenStr x1) H) fun x7_1 H2 =>
 S.b (bldS 1 1 [(.int .i64 0)] [(0, 1, x7_1)] H2) fun x8_3 H4 =>
 S.b (C 36 [x0, x8_3] H4) fun x9_5 H6 =>
 S.b (nilC x0 H6) fun x12_7 H8 =>
 S.b (up (fAddr 0 x12_7) H8) fun x13_9 H10 =>
 S.b (ldC x13_9 H10) fun x14_11 H12 =>
 S.b (app 1 1 x14_11 x1 H12) fun x16_13 H14 =>
 S.b (nilC x0 H14) fun x17_15 H16 =>
 S.b (up (fAddr 0 x17_15) H16) fun x18_17 H18 =>
 S.b (stV 1 x18_17 x16_13 H18) fun _ H19 =>
 some (x0, H19)

theorem f31_main (S : Seam (Value × Heap)) (C : CallF) (n : Nat) (x0 : Value) (x1 : Value) (H : Heap) : acodeK S Try.prog C n 20 f31_c (env0 [x0, x1]) H (fin Try.prog Try.f31) = f31 S C n x0 x1 H := by
  kernel_rfl


theorem f31_eq {gl : Bool} {E : Ext} (hE : E 31 = none) (n : Nat) (x0 : Value) (x1 : Value) (H : Heap) : acall Try.prog gl E (n + 1) 31 [x0, x1] H = f31 real (acall Try.prog gl E n) n x0 x1 H :=
  (acall_eq (N := 20) Try.func31 (by kernel_rfl) (by kernel_rfl) hE (okgl f31_c (by kernel_rfl)) (by kernel_rfl)).trans (f31_main real _ n x0 x1 H)

/-! (*incunable/keys.key).ends -/
noncomputable def f32_c : Code := (Try.f32.body).getD .skip

noncomputable def f32 (S : Seam (Value × Heap)) (C : CallF) (n : Nat) (x0 : Value) (H : Heap) : Option (Value × Heap) :=
 S.b (nilC x0 H) fun x6_1 H2 =>
 S.b (up (fAddr 1 x6_1) H2) fun x7_3 H4 =>
 S.b (ldC x7_3 H4) fun x8_5 H6 =>
 S.b (up (binB Try.prog .neq 25 x8_5 (.int .i64 0)) H6) fun x9_7 H8 =>
 S.i x9_7
 (S.b (nilC x0 H8) fun x11_9 H10 =>
  S.b (up (fAddr 1 x11_9) H10) fun x12_11 H12 =>
  S.c true (S.b (ldC x12_11 H12) fun x13_13 H14 =>
  some (.tuple #[(.slice none 0 0), x13_13], H14)))
 (S.b (nilC x0 H8) fun x16_15 H16 =>
  S.b (up (fAddr 0 x16_15) H16) fun x17_17 H18 =>
  S.b (ldC x17_17 H18) fun x18_19 H20 =>
  S.b (up (lenS x18_19) H20) fun x19_21 H22 =>
  S.b (up (binB Try.prog .gtr 3 x19_21 (.int .i64 65536)) H22) fun x20_23 H24 =>
  S.i x20_23
  (some (.tuple #[(.slice none 0 0), (.int .i64 5)], H24))
  (S.b (nilC x0 H24) fun x22_25 H26 =>
   S.b (up (fAddr 0 x22_25) H26) fun x23_27 H28 =>
   S.b (ldC x23_27 H28) fun x24_29 H30 =>
   some (.tuple #[x24_29, (.int .i64 0)], H30)))

theorem f32_main (S : Seam (Value × Heap)) (C : CallF) (n : Nat) (x0 : Value) (H : Heap) : acodeK S Try.prog C n 25 f32_c (env0 [x0]) H (fin Try.prog Try.f32) = f32 S C n x0 H := by
  kernel_rfl


theorem f32_eq {gl : Bool} {E : Ext} (hE : E 32 = none) (n : Nat) (x0 : Value) (H : Heap) : acall Try.prog gl E (n + 1) 32 [x0] H = f32 real (acall Try.prog gl E n) n x0 H :=
  (acall_eq (N := 25) Try.func32 (by kernel_rfl) (by kernel_rfl) hE (okgl f32_c (by kernel_rfl)) (by kernel_rfl)).trans (f32_main real _ n x0 H)

/-! (*incunable/keys.key).numbers -/
noncomputable def f36_c : Code := (Try.f36.body).getD .skip

noncomputable def f36_J1 (S : Seam (Value × Heap)) (C : CallF) (n : Nat) (R0 : Value→Value→Value→Value→Heap→Option (Value × Heap)) (x0_27 x7_28 x9_29 x10_30 x11_31 : Value) (H32 : Heap) : Option (Value × Heap) :=
 S.b (nilC x0_27 H32) fun x28_33 H34 =>
 S.b (up (fAddr 0 x28_33) H34) fun x29_35 H36 =>
 S.b (ldC x29_35 H36) fun x30_37 H38 =>
 S.b (app 1 1 x30_37 x7_28 H38) fun x32_39 H40 =>
 S.b (nilC x0_27 H40) fun x33_41 H42 =>
 S.b (up (fAddr 0 x33_41) H42) fun x34_43 H44 =>
 S.b (stV 1 x34_43 x32_39 H44) fun _ H45 =>
 S.b (up (binB Try.prog .add 3 x11_31 (.int .i64 1)) H45) fun x35_46 H47 =>
 R0 x0_27 x9_29 x10_30 x35_46 H47

noncomputable def f36_L0 (S : Seam (Value × Heap)) (C : CallF) (n : Nat) : Nat → Value → Value → Value → Value → Heap → Option (Value × Heap)
 | 0, _, _, _, _, _ => none
 | m + 1, x0_3, x9_4, x10_5, x11_6, H7 =>
   S.b (up (binB Try.prog .lss 3 x11_6 x10_5) H7) fun x12_8 H9 =>
   S.i x12_8
   (S.b (up (iAddrS 1 x9_4 x11_6) H9) fun x13_10 H11 =>
    S.b (ldC x13_10 H11) fun x14_12 H13 =>
    S.b (C 48 [x14_12] H13) fun x17_14 H15 =>
    S.b (extr 0 x17_14 H15) fun x18_16 H17 =>
    S.b (extr 1 x17_14 H17) fun x19_18 H19 =>
    S.b (up (binB Try.prog .neq 25 x19_18 (.int .i64 0)) H19) fun x21_20 H21 =>
    S.i x21_20
    (S.b (nilC x0_3 H21) fun x24_22 H23 =>
     S.b (up (fAddr 1 x24_22) H23) fun x25_24 H25 =>
     S.b (stV 1 x25_24 x19_18 H25) fun _ H26 =>
     f36_J1 S C n (f36_L0 S C n m) x0_3 x18_16 x9_4 x10_5 x11_6 H26)
    (f36_J1 S C n (f36_L0 S C n m) x0_3 x18_16 x9_4 x10_5 x11_6 H21))
   (some (x0_3, H9))

theorem f36_L0_eq (S : Seam (Value × Heap)) (C : CallF) (n : Nat) : ∀ (m : Nat) (env : Env) (H : Heap), aloopK (acodeK S Try.prog C n 37 (cAt f36_c [1, 0, 1, 0, 0])) m env H (kAt S Try.prog C n 37 f36_c [1, 0, 1, 0] (fin Try.prog Try.f36)) = f36_L0 S C n m (env 0) (env 9) (env 10) (env 11) H := by
  intro m env H
  refine aloopK_eq (L := fun m env H => f36_L0 S C n m (env 0) (env 9) (env 10) (env 11) H) (fun env H => rfl) (fun m env H => ?_) m env H
  kernel_rfl


noncomputable def f36 (S : Seam (Value × Heap)) (C : CallF) (n : Nat) (x0 : Value) (x1 : Value) (H : Heap) : Option (Value × Heap) :=
 S.b (up (lenS x1) H) fun x10_1 H2 =>
 f36_L0 S C n n x0 x1 x10_1 (.int .i64 0) H2

noncomputable def f36G (S : Seam (Value × Heap)) (C : CallF) (n : Nat) (P0 : Env → Heap → Option (Value × Heap)) (x0 : Value) (x1 : Value) (H : Heap) : Option (Value × Heap) :=
 S.b (up (lenS x1) H) fun x10_48 H49 =>
 P0 (putE 37 (putE 37 (putE 37 (putE 37 (env0 [x0, x1]) (some 4) (.pointer none)) (some 9) x1) (some 10) x10_48) (some 11) (.int .i64 0)) H49

theorem f36_main (S : Seam (Value × Heap)) (C : CallF) (n : Nat) (x0 : Value) (x1 : Value) (H : Heap) : acodeK S Try.prog C n 37 f36_c (env0 [x0, x1]) H (fin Try.prog Try.f36) = f36 S C n x0 x1 H := by
  have h1 : acodeK S Try.prog C n 37 f36_c (env0 [x0, x1]) H (fin Try.prog Try.f36) = f36G S C n (fun env H => aloopK (acodeK S Try.prog C n 37 (cAt f36_c [1, 0, 1, 0, 0])) n env H (kAt S Try.prog C n 37 f36_c [1, 0, 1, 0] (fin Try.prog Try.f36))) x0 x1 H := by kernel_rfl
  have e0 : (fun env H => aloopK (acodeK S Try.prog C n 37 (cAt f36_c [1, 0, 1, 0, 0])) n env H (kAt S Try.prog C n 37 f36_c [1, 0, 1, 0] (fin Try.prog Try.f36))) = (fun env H => f36_L0 S C n n (env 0) (env 9) (env 10) (env 11) H) := by funext env H; exact f36_L0_eq S C n n env H
  rw [e0] at h1
  exact h1.trans (by kernel_rfl)


theorem f36_eq {gl : Bool} {E : Ext} (hE : E 36 = none) (n : Nat) (x0 : Value) (x1 : Value) (H : Heap) : acall Try.prog gl E (n + 1) 36 [x0, x1] H = f36 real (acall Try.prog gl E n) n x0 x1 H :=
  (acall_eq (N := 37) Try.func36 (by kernel_rfl) (by kernel_rfl) hE (okgl f36_c (by kernel_rfl)) (by kernel_rfl)).trans (f36_main real _ n x0 x1 H)

/-! (*incunable/keys.key).levels -/
noncomputable def f49_c : Code := (Try.f49.body).getD .skip

noncomputable def f49_L0 (S : Seam (Value × Heap)) (C : CallF) (n : Nat) : Nat → Value → Value → Value → Value → Heap → Option (Value × Heap)
 | 0, _, _, _, _, _ => none
 | m + 1, x0_3, x7_4, x8_5, x9_6, H7 =>
   S.b (up (binB Try.prog .lss 3 x9_6 x8_5) H7) fun x10_8 H9 =>
   S.i x10_8
   (S.b (up (iAddrS 2 x7_4 x9_6) H9) fun x11_10 H11 =>
    S.b (ldA 2 x11_10 H11) fun x12_12 H13 =>
    S.b (newV [(.int .i64 0), (.int .i64 0)] H13) fun x6_14 H15 =>
    S.b (stV 2 x6_14 x12_12 H15) fun _ H16 =>
    S.b (up (fAddr 0 x6_14) H16) fun x14_17 H18 =>
    S.b (ldC x14_17 H18) fun x15_19 H20 =>
    S.b (up (fAddr 1 x6_14) H20) fun x16_21 H22 =>
    S.b (ldC x16_21 H22) fun x17_23 H24 =>
    S.b (bldS 1 2 [(.int .i64 0)] [(0, 1, x15_19), (1, 1, x17_23)] H24) fun x18_25 H26 =>
    S.b (C 36 [x0_3, x18_25] H26) fun x19_27 H28 =>
    S.b (up (binB Try.prog .add 3 x9_6 (.int .i64 1)) H28) fun x20_29 H30 =>
    f49_L0 S C n m x0_3 x7_4 x8_5 x20_29 H30)
   (some (x0_3, H9))

theorem f49_L0_eq (S : Seam (Value × Heap)) (C : CallF) (n : Nat) : ∀ (m : Nat) (env : Env) (H : Heap), aloopK (acodeK S Try.prog C n 22 (cAt f49_c [1, 0, 1, 0, 0])) m env H (kAt S Try.prog C n 22 f49_c [1, 0, 1, 0] (fin Try.prog Try.f49)) = f49_L0 S C n m (env 0) (env 7) (env 8) (env 9) H := by
  intro m env H
  refine aloopK_eq (L := fun m env H => f49_L0 S C n m (env 0) (env 7) (env 8) (env 9) H) (fun env H => rfl) (fun m env H => ?_) m env H
  kernel_rfl


noncomputable def f49 (S : Seam (Value × Heap)) (C : CallF) (n : Nat) (x0 : Value) (x1 : Value) (H : Heap) : Option (Value × Heap) :=
 S.b (up (lenS x1) H) fun x8_1 H2 =>
 f49_L0 S C n n x0 x1 x8_1 (.int .i64 0) H2

noncomputable def f49G (S : Seam (Value × Heap)) (C : CallF) (n : Nat) (P0 : Env → Heap → Option (Value × Heap)) (x0 : Value) (x1 : Value) (H : Heap) : Option (Value × Heap) :=
 S.b (up (lenS x1) H) fun x8_31 H32 =>
 P0 (putE 22 (putE 22 (putE 22 (putE 22 (env0 [x0, x1]) (some 4) (.pointer none)) (some 7) x1) (some 8) x8_31) (some 9) (.int .i64 0)) H32

theorem f49_main (S : Seam (Value × Heap)) (C : CallF) (n : Nat) (x0 : Value) (x1 : Value) (H : Heap) : acodeK S Try.prog C n 22 f49_c (env0 [x0, x1]) H (fin Try.prog Try.f49) = f49 S C n x0 x1 H := by
  have h1 : acodeK S Try.prog C n 22 f49_c (env0 [x0, x1]) H (fin Try.prog Try.f49) = f49G S C n (fun env H => aloopK (acodeK S Try.prog C n 22 (cAt f49_c [1, 0, 1, 0, 0])) n env H (kAt S Try.prog C n 22 f49_c [1, 0, 1, 0] (fin Try.prog Try.f49))) x0 x1 H := by kernel_rfl
  have e0 : (fun env H => aloopK (acodeK S Try.prog C n 22 (cAt f49_c [1, 0, 1, 0, 0])) n env H (kAt S Try.prog C n 22 f49_c [1, 0, 1, 0] (fin Try.prog Try.f49))) = (fun env H => f49_L0 S C n n (env 0) (env 7) (env 8) (env 9) H) := by funext env H; exact f49_L0_eq S C n n env H
  rw [e0] at h1
  exact h1.trans (by kernel_rfl)


theorem f49_eq {gl : Bool} {E : Ext} (hE : E 49 = none) (n : Nat) (x0 : Value) (x1 : Value) (H : Heap) : acall Try.prog gl E (n + 1) 49 [x0, x1] H = f49 real (acall Try.prog gl E n) n x0 x1 H :=
  (acall_eq (N := 22) Try.func49 (by kernel_rfl) (by kernel_rfl) hE (okgl f49_c (by kernel_rfl)) (by kernel_rfl)).trans (f49_main real _ n x0 x1 H)

/-! (*incunable/keys.key).part -/
noncomputable def f37_c : Code := (Try.f37.body).getD .skip

noncomputable def f37_L0 (S : Seam (Value × Heap)) (C : CallF) (n : Nat) : Nat → Value → Value → Value → Value → Heap → Option (Value × Heap)
 | 0, _, _, _, _, _ => none
 | m + 1, x0_63, x35_64, x36_65, x37_66, H67 =>
   S.b (up (binB Try.prog .lss 3 x37_66 x36_65) H67) fun x38_68 H69 =>
   S.i x38_68
   (S.b (up (iAddrS 4 x35_64 x37_66) H69) fun x39_70 H71 =>
    S.b (ldA 4 x39_70 H71) fun x40_72 H73 =>
    S.b (newV [(.int .i64 0), (.slice none 0 0), (.int .i64 0), (.int .i64 0)] H73) fun x6_74 H75 =>
    S.b (stV 4 x6_74 x40_72 H75) fun _ H76 =>
    S.b (up (fAddr 0 x6_74) H76) fun x42_77 H78 =>
    S.c true (S.b (ldC x42_77 H78) fun x43_79 H80 =>
    S.b (up (fAddr 1 x6_74) H80) fun x44_81 H82 =>
    S.c true (S.b (ldC x44_81 H82) fun x45_83 H84 =>
    S.b (up (lenS x45_83) H84) fun x46_85 H86 =>
    S.b (bldS 1 2 [(.int .i64 0)] [(0, 1, x43_79), (1, 1, x46_85)] H86) fun x47_87 H88 =>
    S.b (C 36 [x0_63, x47_87] H88) fun x48_89 H90 =>
    S.c true (S.b (up (fAddr 1 x6_74) H90) fun x49_91 H92 =>
     S.c ((sameBlk H88 H90 (blkOf x49_91)) && true) (S.b (ldC x49_91 H92) fun x50_93 H94 =>
     S.b (C 36 [x48_89, x50_93] H94) fun x51_95 H96 =>
     S.c true (S.b (up (fAddr 2 x6_74) H96) fun x52_97 H98 =>
      S.c ((sameBlk H94 H96 (blkOf x52_97)) && ((sameBlk H88 H90 (blkOf x52_97)) && true)) (S.b (ldA 2 x52_97 H98) fun x53_99 H100 =>
      S.b (bldS 2 1 [(.int .i64 0), (.int .i64 0)] [(0, 2, x53_99)] H100) fun x54_101 H102 =>
      S.b (C 49 [x51_95, x54_101] H102) fun x55_103 H104 =>
      S.c true (S.b (up (binB Try.prog .add 3 x37_66 (.int .i64 1)) H104) fun x56_105 H106 =>
       f37_L0 S C n m x0_63 x35_64 x36_65 x56_105 H106))))))))
   (some (x0_63, H69))

theorem f37_L0_eq (S : Seam (Value × Heap)) (C : CallF) (n : Nat) : ∀ (m : Nat) (env : Env) (H : Heap), aloopK (acodeK S Try.prog C n 58 (cAt f37_c [1, 1, 1, 0, 1, 0, 0])) m env H (kAt S Try.prog C n 58 f37_c [1, 1, 1, 0, 1, 0] (fin Try.prog Try.f37)) = f37_L0 S C n m (env 0) (env 35) (env 36) (env 37) H := by
  intro m env H
  refine aloopK_eq (L := fun m env H => f37_L0 S C n m (env 0) (env 35) (env 36) (env 37) H) (fun env H => rfl) (fun m env H => ?_) m env H
  kernel_rfl


noncomputable def f37_J1 (S : Seam (Value × Heap)) (C : CallF) (n : Nat) (x0_22 x3_23 : Value) (H24 : Heap) : Option (Value × Heap) :=
 S.b (up (fAddr 0 x3_23) H24) fun x18_25 H26 =>
 S.c true (S.b (ldC x18_25 H26) fun x19_27 H28 =>
 S.b (up (lenS x19_27) H28) fun x20_29 H30 =>
 S.b (up (fAddr 3 x3_23) H30) fun x21_31 H32 =>
 S.c true (S.b (ldC x21_31 H32) fun x22_33 H34 =>
 S.b (up (lenS x22_33) H34) fun x23_35 H36 =>
 S.b (bldS 1 2 [(.int .i64 0)] [(0, 1, x20_29), (1, 1, x23_35)] H36) fun x24_37 H38 =>
 S.b (C 36 [x0_22, x24_37] H38) fun x25_39 H40 =>
 S.c true (S.b (up (fAddr 1 x3_23) H40) fun x26_41 H42 =>
  S.c ((sameBlk H38 H40 (blkOf x26_41)) && true) (S.b (ldC x26_41 H42) fun x27_43 H44 =>
  S.b (C 49 [x25_39, x27_43] H44) fun x28_45 H46 =>
  S.c true (S.b (up (fAddr 4 x3_23) H46) fun x29_47 H48 =>
   S.c ((sameBlk H44 H46 (blkOf x29_47)) && ((sameBlk H38 H40 (blkOf x29_47)) && true)) (S.b (ldC x29_47 H48) fun x30_49 H50 =>
   S.b (up (lenS x30_49) H50) fun x31_51 H52 =>
   S.b (bldS 1 1 [(.int .i64 0)] [(0, 1, x31_51)] H52) fun x32_53 H54 =>
   S.b (C 36 [x28_45, x32_53] H54) fun x33_55 H56 =>
   S.c true (S.b (up (fAddr 4 x3_23) H56) fun x34_57 H58 =>
    S.b (ldC x34_57 H58) fun x35_59 H60 =>
    S.b (up (lenS x35_59) H60) fun x36_61 H62 =>
    f37_L0 S C n n x0_22 x35_59 x36_61 (.int .i64 0) H62)))))))

noncomputable def f37 (S : Seam (Value × Heap)) (C : CallF) (n : Nat) (x0 : Value) (x1 : Value) (H : Heap) : Option (Value × Heap) :=
 S.b (newV (Value.cells x1).toList H) fun x3_1 H2 =>
 S.b (up (fAddr 1 x3_1) H2) fun x7_3 H4 =>
 S.b (ldC x7_3 H4) fun x8_5 H6 =>
 S.b (up (lenS x8_5) H6) fun x9_7 H8 =>
 S.b (up (fAddr 0 x3_1) H8) fun x10_9 H10 =>
 S.b (ldC x10_9 H10) fun x11_11 H12 =>
 S.b (up (lenS x11_11) H12) fun x12_13 H14 =>
 S.b (up (binB Try.prog .neq 3 x9_7 x12_13) H14) fun x13_15 H16 =>
 S.i x13_15
 (S.b (nilC x0 H16) fun x15_17 H18 =>
  S.b (up (fAddr 1 x15_17) H18) fun x16_19 H20 =>
  S.b (stV 1 x16_19 (.int .i64 2) H20) fun _ H21 =>
  f37_J1 S C n x0 x3_1 H21)
 (f37_J1 S C n x0 x3_1 H16)

noncomputable def f37G (S : Seam (Value × Heap)) (C : CallF) (n : Nat) (P0 : Env → Heap → Option (Value × Heap)) (x0 : Value) (x1 : Value) (H : Heap) : Option (Value × Heap) :=
 S.b (newV (Value.cells x1).toList H) fun x3_107 H108 =>
 S.b (up (fAddr 1 x3_107) H108) fun x7_109 H110 =>
 S.b (ldC x7_109 H110) fun x8_111 H112 =>
 S.b (up (lenS x8_111) H112) fun x9_113 H114 =>
 S.b (up (fAddr 0 x3_107) H114) fun x10_115 H116 =>
 S.b (ldC x10_115 H116) fun x11_117 H118 =>
 S.b (up (lenS x11_117) H118) fun x12_119 H120 =>
 S.b (up (binB Try.prog .neq 3 x9_113 x12_119) H120) fun x13_121 H122 =>
 S.i x13_121
 (S.b (nilC x0 H122) fun x15_123 H124 =>
  S.b (up (fAddr 1 x15_123) H124) fun x16_125 H126 =>
  S.b (stV 1 x16_125 (.int .i64 2) H126) fun u127 H128 =>
  S.b (up (fAddr 0 x3_107) H128) fun x18_129 H130 =>
  S.c true (S.b (ldC x18_129 H130) fun x19_131 H132 =>
  S.b (up (lenS x19_131) H132) fun x20_133 H134 =>
  S.b (up (fAddr 3 x3_107) H134) fun x21_135 H136 =>
  S.c true (S.b (ldC x21_135 H136) fun x22_137 H138 =>
  S.b (up (lenS x22_137) H138) fun x23_139 H140 =>
  S.b (bldS 1 2 [(.int .i64 0)] [(0, 1, x20_133), (1, 1, x23_139)] H140) fun x24_141 H142 =>
  S.b (C 36 [x0, x24_141] H142) fun x25_143 H144 =>
  S.c true (S.b (up (fAddr 1 x3_107) H144) fun x26_145 H146 =>
   S.c ((sameBlk H142 H144 (blkOf x26_145)) && true) (S.b (ldC x26_145 H146) fun x27_147 H148 =>
   S.b (C 49 [x25_143, x27_147] H148) fun x28_149 H150 =>
   S.c true (S.b (up (fAddr 4 x3_107) H150) fun x29_151 H152 =>
    S.c ((sameBlk H148 H150 (blkOf x29_151)) && ((sameBlk H142 H144 (blkOf x29_151)) && true)) (S.b (ldC x29_151 H152) fun x30_153 H154 =>
    S.b (up (lenS x30_153) H154) fun x31_155 H156 =>
    S.b (bldS 1 1 [(.int .i64 0)] [(0, 1, x31_155)] H156) fun x32_157 H158 =>
    S.b (C 36 [x28_149, x32_157] H158) fun x33_159 H160 =>
    S.c true (S.b (up (fAddr 4 x3_107) H160) fun x34_161 H162 =>
     S.b (ldC x34_161 H162) fun x35_163 H164 =>
     S.b (up (lenS x35_163) H164) fun x36_165 H166 =>
     P0 (putE 58 (putE 58 (putE 58 (putE 58 (putE 58 (putE 58 (putE 58 (putE 58 (putE 58 (putE 58 (putE 58 (putE 58 (putE 58 (putE 58 (putE 58 (putE 58 (putE 58 (putE 58 (putE 58 (putE 58 (putE 58 (putE 58 (putE 58 (putE 58 (putE 58 (putE 58 (putE 58 (putE 58 (putE 58 (putE 58 (putE 58 (putE 58 (putE 58 (putE 58 (env0 [x0, x1]) (some 3) x3_107) (some 4) (.pointer none)) (some 7) x7_109) (some 8) x8_111) (some 9) x9_113) (some 10) x10_115) (some 11) x11_117) (some 12) x12_119) (some 13) x13_121) (some 14) x0) (some 15) x15_123) (some 16) x16_125) none u127) (some 17) x0) (some 18) x18_129) (some 19) x19_131) (some 20) x20_133) (some 21) x21_135) (some 22) x22_137) (some 23) x23_139) (some 24) x24_141) (some 25) x25_143) (some 26) x26_145) (some 27) x27_147) (some 28) x28_149) (some 29) x29_151) (some 30) x30_153) (some 31) x31_155) (some 32) x32_157) (some 33) x33_159) (some 34) x34_161) (some 35) x35_163) (some 36) x36_165) (some 37) (.int .i64 0)) H166))))))))
 (S.b (up (fAddr 0 x3_107) H122) fun x18_167 H168 =>
  S.c true (S.b (ldC x18_167 H168) fun x19_169 H170 =>
  S.b (up (lenS x19_169) H170) fun x20_171 H172 =>
  S.b (up (fAddr 3 x3_107) H172) fun x21_173 H174 =>
  S.c true (S.b (ldC x21_173 H174) fun x22_175 H176 =>
  S.b (up (lenS x22_175) H176) fun x23_177 H178 =>
  S.b (bldS 1 2 [(.int .i64 0)] [(0, 1, x20_171), (1, 1, x23_177)] H178) fun x24_179 H180 =>
  S.b (C 36 [x0, x24_179] H180) fun x25_181 H182 =>
  S.c true (S.b (up (fAddr 1 x3_107) H182) fun x26_183 H184 =>
   S.c ((sameBlk H180 H182 (blkOf x26_183)) && true) (S.b (ldC x26_183 H184) fun x27_185 H186 =>
   S.b (C 49 [x25_181, x27_185] H186) fun x28_187 H188 =>
   S.c true (S.b (up (fAddr 4 x3_107) H188) fun x29_189 H190 =>
    S.c ((sameBlk H186 H188 (blkOf x29_189)) && ((sameBlk H180 H182 (blkOf x29_189)) && true)) (S.b (ldC x29_189 H190) fun x30_191 H192 =>
    S.b (up (lenS x30_191) H192) fun x31_193 H194 =>
    S.b (bldS 1 1 [(.int .i64 0)] [(0, 1, x31_193)] H194) fun x32_195 H196 =>
    S.b (C 36 [x28_187, x32_195] H196) fun x33_197 H198 =>
    S.c true (S.b (up (fAddr 4 x3_107) H198) fun x34_199 H200 =>
     S.b (ldC x34_199 H200) fun x35_201 H202 =>
     S.b (up (lenS x35_201) H202) fun x36_203 H204 =>
     P0 (putE 58 (putE 58 (putE 58 (putE 58 (putE 58 (putE 58 (putE 58 (putE 58 (putE 58 (putE 58 (putE 58 (putE 58 (putE 58 (putE 58 (putE 58 (putE 58 (putE 58 (putE 58 (putE 58 (putE 58 (putE 58 (putE 58 (putE 58 (putE 58 (putE 58 (putE 58 (putE 58 (putE 58 (putE 58 (putE 58 (env0 [x0, x1]) (some 3) x3_107) (some 4) (.pointer none)) (some 7) x7_109) (some 8) x8_111) (some 9) x9_113) (some 10) x10_115) (some 11) x11_117) (some 12) x12_119) (some 13) x13_121) (some 17) x0) (some 18) x18_167) (some 19) x19_169) (some 20) x20_171) (some 21) x21_173) (some 22) x22_175) (some 23) x23_177) (some 24) x24_179) (some 25) x25_181) (some 26) x26_183) (some 27) x27_185) (some 28) x28_187) (some 29) x29_189) (some 30) x30_191) (some 31) x31_193) (some 32) x32_195) (some 33) x33_197) (some 34) x34_199) (some 35) x35_201) (some 36) x36_203) (some 37) (.int .i64 0)) H204))))))))

theorem f37_main (S : Seam (Value × Heap)) (C : CallF) (n : Nat) (x0 : Value) (x1 : Value) (H : Heap) : acodeK S Try.prog C n 58 f37_c (env0 [x0, x1]) H (fin Try.prog Try.f37) = f37 S C n x0 x1 H := by
  have h1 : acodeK S Try.prog C n 58 f37_c (env0 [x0, x1]) H (fin Try.prog Try.f37) = f37G S C n (fun env H => aloopK (acodeK S Try.prog C n 58 (cAt f37_c [1, 1, 1, 0, 1, 0, 0])) n env H (kAt S Try.prog C n 58 f37_c [1, 1, 1, 0, 1, 0] (fin Try.prog Try.f37))) x0 x1 H := by kernel_rfl
  have e0 : (fun env H => aloopK (acodeK S Try.prog C n 58 (cAt f37_c [1, 1, 1, 0, 1, 0, 0])) n env H (kAt S Try.prog C n 58 f37_c [1, 1, 1, 0, 1, 0] (fin Try.prog Try.f37))) = (fun env H => f37_L0 S C n n (env 0) (env 35) (env 36) (env 37) H) := by funext env H; exact f37_L0_eq S C n n env H
  rw [e0] at h1
  exact h1.trans (by kernel_rfl)


theorem f37_eq {gl : Bool} {E : Ext} (hE : E 37 = none) (n : Nat) (x0 : Value) (x1 : Value) (H : Heap) : acall Try.prog gl E (n + 1) 37 [x0, x1] H = f37 real (acall Try.prog gl E n) n x0 x1 H :=
  (acall_eq (N := 58) Try.func37 (by kernel_rfl) (by kernel_rfl) hE (okgl f37_c (by kernel_rfl)) (by kernel_rfl)).trans (f37_main real _ n x0 x1 H)

/-! incunable/incunableref00.CopyBytes -/
noncomputable def f10_c : Code := (Try.f10.body).getD .skip

noncomputable def f10 (S : Seam (Value × Heap)) (C : CallF) (n : Nat) (x0 : Value) (H : Heap) : Option (Value × Heap) :=
 S.b (app 1 1 (.slice none 0 0) x0 H) fun x6_1 H2 =>
 some (x6_1, H2)

theorem f10_main (S : Seam (Value × Heap)) (C : CallF) (n : Nat) (x0 : Value) (H : Heap) : acodeK S Try.prog C n 8 f10_c (env0 [x0]) H (fin Try.prog Try.f10) = f10 S C n x0 H := by
  kernel_rfl


theorem f10_eq {gl : Bool} {E : Ext} (hE : E 10 = none) (n : Nat) (x0 : Value) (H : Heap) : acall Try.prog gl E (n + 1) 10 [x0] H = f10 real (acall Try.prog gl E n) n x0 H :=
  (acall_eq (N := 8) Try.func10 (by kernel_rfl) (by kernel_rfl) hE (okgl f10_c (by kernel_rfl)) (by kernel_rfl)).trans (f10_main real _ n x0 H)

/-! incunable/keys.File -/
noncomputable def f11_c : Code := (Try.f11.body).getD .skip

noncomputable def f11 (S : Seam (Value × Heap)) (C : CallF) (n : Nat) (x0 : Value) (H : Heap) : Option (Value × Heap) :=
 S.b (C 30 [(.int .i64 1)] H) fun x4_1 H2 =>
 S.c true (S.c ((sameBlk H H2 (blkOf x0)) && true) (S.b (toStr x0 H2) fun x6_3 H4 =>
  S.b (C 31 [x4_1, x6_3] H4) fun x7_5 H6 =>
  S.c true (S.b (C 32 [x7_5] H6) fun x8_7 H8 =>
   S.c true (S.b (extr 0 x8_7 H8) fun x9_9 H10 =>
    S.b (extr 1 x8_7 H10) fun x10_11 H12 =>
    some (.tuple #[x9_9, x10_11], H12)))))

theorem f11_main (S : Seam (Value × Heap)) (C : CallF) (n : Nat) (x0 : Value) (H : Heap) : acodeK S Try.prog C n 11 f11_c (env0 [x0]) H (fin Try.prog Try.f11) = f11 S C n x0 H := by
  kernel_rfl


theorem f11_eq {gl : Bool} {E : Ext} (hE : E 11 = none) (n : Nat) (x0 : Value) (H : Heap) : acall Try.prog gl E (n + 1) 11 [x0] H = f11 real (acall Try.prog gl E n) n x0 H :=
  (acall_eq (N := 11) Try.func11 (by kernel_rfl) (by kernel_rfl) hE (okgl f11_c (by kernel_rfl)) (by kernel_rfl)).trans (f11_main real _ n x0 H)

/-! incunable/incunableref25.File -/
noncomputable def f12_c : Code := (Try.f12.body).getD .skip

noncomputable def f12 (S : Seam (Value × Heap)) (C : CallF) (n : Nat) (x0 : Value) (H : Heap) : Option (Value × Heap) :=
 S.b (bld [(.slice none 0 0), (.bool false)] [] H) fun x5_1 H2 =>
 S.b (newV (Value.cells x5_1).toList H2) fun x6_3 H4 =>
 S.b (C 33 [x6_3, (.int .i64 1)] H4) fun x8_5 H6 =>
 S.b (toStr x0 H6) fun x11_7 H8 =>
 S.b (C 34 [x6_3, x11_7] H8) fun x12_9 H10 =>
 S.b (C 35 [x6_3] H10) fun x14_11 H12 =>
 S.b (extr 0 x14_11 H12) fun x15_13 H14 =>
 S.b (extr 1 x14_11 H14) fun x16_15 H16 =>
 some (.tuple #[x15_13, x16_15], H16)

theorem f12_main (S : Seam (Value × Heap)) (C : CallF) (n : Nat) (x0 : Value) (H : Heap) : acodeK S Try.prog C n 17 f12_c (env0 [x0]) H (fin Try.prog Try.f12) = f12 S C n x0 H := by
  kernel_rfl


theorem f12_eq {gl : Bool} {E : Ext} (hE : E 12 = none) (n : Nat) (x0 : Value) (H : Heap) : acall Try.prog gl E (n + 1) 12 [x0] H = f12 real (acall Try.prog gl E n) n x0 H :=
  (acall_eq (N := 17) Try.func12 (by kernel_rfl) (by kernel_rfl) hE (okgl f12_c (by kernel_rfl)) (by kernel_rfl)).trans (f12_main real _ n x0 H)

/-! incunable/keys.Scanner -/
noncomputable def f13_c : Code := (Try.f13.body).getD .skip

noncomputable def f13_L0 (S : Seam (Value × Heap)) (C : CallF) (n : Nat) : Nat → Value → Value → Value → Value → Heap → Option (Value × Heap)
 | 0, _, _, _, _, _ => none
 | m + 1, x4_11, x12_12, x13_13, x14_14, H15 =>
   S.b (up (binB Try.prog .lss 3 x14_14 x13_13) H15) fun x15_16 H17 =>
   S.i x15_16
   (S.b (up (iAddrS 1 x12_12 x14_14) H17) fun x16_18 H19 =>
    S.b (ldC x16_18 H19) fun x17_20 H21 =>
    S.b (C 31 [x4_11, x17_20] H21) fun x20_22 H23 =>
    S.b (up (binB Try.prog .add 3 x14_14 (.int .i64 1)) H23) fun x21_24 H25 =>
    f13_L0 S C n m x4_11 x12_12 x13_13 x21_24 H25)
   (S.b (C 32 [x4_11] H17) fun x23_26 H27 =>
    S.b (extr 0 x23_26 H27) fun x24_28 H29 =>
    S.b (extr 1 x23_26 H29) fun x25_30 H31 =>
    some (.tuple #[x24_28, x25_30], H31))

theorem f13_L0_eq (S : Seam (Value × Heap)) (C : CallF) (n : Nat) : ∀ (m : Nat) (env : Env) (H : Heap), aloopK (acodeK S Try.prog C n 26 (cAt f13_c [1, 1, 0, 1, 0, 0])) m env H (kAt S Try.prog C n 26 f13_c [1, 1, 0, 1, 0] (fin Try.prog Try.f13)) = f13_L0 S C n m (env 4) (env 12) (env 13) (env 14) H := by
  intro m env H
  refine aloopK_eq (L := fun m env H => f13_L0 S C n m (env 4) (env 12) (env 13) (env 14) H) (fun env H => rfl) (fun m env H => ?_) m env H
  kernel_rfl


noncomputable def f13 (S : Seam (Value × Heap)) (C : CallF) (n : Nat) (x0 : Value) (H : Heap) : Option (Value × Heap) :=
 S.b (C 30 [(.int .i64 2)] H) fun x7_1 H2 =>
 S.b (up (lenS x0) H2) fun x9_3 H4 =>
 S.b (bldS 1 1 [(.int .i64 0)] [(0, 1, x9_3)] H4) fun x10_5 H6 =>
 S.b (C 36 [x7_1, x10_5] H6) fun x11_7 H8 =>
 S.b (up (lenS x0) H8) fun x13_9 H10 =>
 f13_L0 S C n n x11_7 x0 x13_9 (.int .i64 0) H10

noncomputable def f13G (S : Seam (Value × Heap)) (C : CallF) (n : Nat) (P0 : Env → Heap → Option (Value × Heap)) (x0 : Value) (H : Heap) : Option (Value × Heap) :=
 S.b (C 30 [(.int .i64 2)] H) fun x7_32 H33 =>
 S.b (up (lenS x0) H33) fun x9_34 H35 =>
 S.b (bldS 1 1 [(.int .i64 0)] [(0, 1, x9_34)] H35) fun x10_36 H37 =>
 S.b (C 36 [x7_32, x10_36] H37) fun x11_38 H39 =>
 S.b (up (lenS x0) H39) fun x13_40 H41 =>
 P0 (putE 26 (putE 26 (putE 26 (putE 26 (putE 26 (putE 26 (putE 26 (putE 26 (putE 26 (putE 26 (putE 26 (env0 [x0]) (some 2) (.slice none 0 0)) (some 3) (.int .i64 0)) (some 7) x7_32) (some 8) x0) (some 9) x9_34) (some 10) x10_36) (some 11) x11_38) (some 4) x11_38) (some 12) x0) (some 13) x13_40) (some 14) (.int .i64 0)) H41

theorem f13_main (S : Seam (Value × Heap)) (C : CallF) (n : Nat) (x0 : Value) (H : Heap) : acodeK S Try.prog C n 26 f13_c (env0 [x0]) H (fin Try.prog Try.f13) = f13 S C n x0 H := by
  have h1 : acodeK S Try.prog C n 26 f13_c (env0 [x0]) H (fin Try.prog Try.f13) = f13G S C n (fun env H => aloopK (acodeK S Try.prog C n 26 (cAt f13_c [1, 1, 0, 1, 0, 0])) n env H (kAt S Try.prog C n 26 f13_c [1, 1, 0, 1, 0] (fin Try.prog Try.f13))) x0 H := by kernel_rfl
  have e0 : (fun env H => aloopK (acodeK S Try.prog C n 26 (cAt f13_c [1, 1, 0, 1, 0, 0])) n env H (kAt S Try.prog C n 26 f13_c [1, 1, 0, 1, 0] (fin Try.prog Try.f13))) = (fun env H => f13_L0 S C n n (env 4) (env 12) (env 13) (env 14) H) := by funext env H; exact f13_L0_eq S C n n env H
  rw [e0] at h1
  exact h1.trans (by kernel_rfl)


theorem f13_eq {gl : Bool} {E : Ext} (hE : E 13 = none) (n : Nat) (x0 : Value) (H : Heap) : acall Try.prog gl E (n + 1) 13 [x0] H = f13 real (acall Try.prog gl E n) n x0 H :=
  (acall_eq (N := 26) Try.func13 (by kernel_rfl) (by kernel_rfl) hE (okgl f13_c (by kernel_rfl)) (by kernel_rfl)).trans (f13_main real _ n x0 H)

/-! incunable/incunableref25.Scanner -/
noncomputable def f14_c : Code := (Try.f14.body).getD .skip

noncomputable def f14_L0 (S : Seam (Value × Heap)) (C : CallF) (n : Nat) : Nat → Value → Value → Value → Heap → Option (Value × Heap)
 | 0, _, _, _, _ => none
 | m + 1, x0_11, x4_12, x5_13, H14 =>
   S.b (up (lenS x0_11) H14) fun x16_15 H16 =>
   S.b (up (binB Try.prog .lss 3 x5_13 x16_15) H16) fun x17_17 H18 =>
   S.i x17_17
   (S.b (up (iAddrS 1 x0_11 x5_13) H18) fun x23_19 H20 =>
    S.b (ldC x23_19 H20) fun x24_21 H22 =>
    S.b (C 34 [x4_12, x24_21] H22) fun x25_23 H24 =>
    S.b (up (binB Try.prog .add 3 x5_13 (.int .i64 1)) H24) fun x19_25 H26 =>
    f14_L0 S C n m x0_11 x4_12 x19_25 H26)
   (S.b (C 35 [x4_12] H18) fun x27_27 H28 =>
    S.b (extr 0 x27_27 H28) fun x28_29 H30 =>
    S.b (extr 1 x27_27 H30) fun x29_31 H32 =>
    some (.tuple #[x28_29, x29_31], H32))

theorem f14_L0_eq (S : Seam (Value × Heap)) (C : CallF) (n : Nat) : ∀ (m : Nat) (env : Env) (H : Heap), aloopK (acodeK S Try.prog C n 30 (cAt f14_c [1, 1, 1, 1, 0, 1, 0, 0])) m env H (kAt S Try.prog C n 30 f14_c [1, 1, 1, 1, 0, 1, 0] (fin Try.prog Try.f14)) = f14_L0 S C n m (env 0) (env 4) (env 5) H := by
  intro m env H
  refine aloopK_eq (L := fun m env H => f14_L0 S C n m (env 0) (env 4) (env 5) H) (fun env H => rfl) (fun m env H => ?_) m env H
  kernel_rfl


noncomputable def f14 (S : Seam (Value × Heap)) (C : CallF) (n : Nat) (x0 : Value) (H : Heap) : Option (Value × Heap) :=
 S.b (bld [(.slice none 0 0), (.bool false)] [] H) fun x6_1 H2 =>
 S.b (newV (Value.cells x6_1).toList H2) fun x7_3 H4 =>
 S.b (C 33 [x7_3, (.int .i64 2)] H4) fun x9_5 H6 =>
 S.b (up (lenS x0) H6) fun x12_7 H8 =>
 S.b (C 33 [x7_3, x12_7] H8) fun x13_9 H10 =>
 f14_L0 S C n n x0 x7_3 (.int .i64 0) H10

noncomputable def f14G (S : Seam (Value × Heap)) (C : CallF) (n : Nat) (P0 : Env → Heap → Option (Value × Heap)) (x0 : Value) (H : Heap) : Option (Value × Heap) :=
 S.b (bld [(.slice none 0 0), (.bool false)] [] H) fun x6_33 H34 =>
 S.b (newV (Value.cells x6_33).toList H34) fun x7_35 H36 =>
 S.b (C 33 [x7_35, (.int .i64 2)] H36) fun x9_37 H38 =>
 S.b (up (lenS x0) H38) fun x12_39 H40 =>
 S.b (C 33 [x7_35, x12_39] H40) fun x13_41 H42 =>
 P0 (putE 30 (putE 30 (putE 30 (putE 30 (putE 30 (putE 30 (putE 30 (putE 30 (putE 30 (putE 30 (putE 30 (putE 30 (env0 [x0]) (some 2) (.slice none 0 0)) (some 3) (.int .i64 0)) (some 6) x6_33) (some 7) x7_35) (some 4) x7_35) (some 8) x7_35) (some 9) x9_37) (some 10) x7_35) (some 11) x0) (some 12) x12_39) (some 13) x13_41) (some 5) (.int .i64 0)) H42

theorem f14_main (S : Seam (Value × Heap)) (C : CallF) (n : Nat) (x0 : Value) (H : Heap) : acodeK S Try.prog C n 30 f14_c (env0 [x0]) H (fin Try.prog Try.f14) = f14 S C n x0 H := by
  have h1 : acodeK S Try.prog C n 30 f14_c (env0 [x0]) H (fin Try.prog Try.f14) = f14G S C n (fun env H => aloopK (acodeK S Try.prog C n 30 (cAt f14_c [1, 1, 1, 1, 0, 1, 0, 0])) n env H (kAt S Try.prog C n 30 f14_c [1, 1, 1, 1, 0, 1, 0] (fin Try.prog Try.f14))) x0 H := by kernel_rfl
  have e0 : (fun env H => aloopK (acodeK S Try.prog C n 30 (cAt f14_c [1, 1, 1, 1, 0, 1, 0, 0])) n env H (kAt S Try.prog C n 30 f14_c [1, 1, 1, 1, 0, 1, 0] (fin Try.prog Try.f14))) = (fun env H => f14_L0 S C n n (env 0) (env 4) (env 5) H) := by funext env H; exact f14_L0_eq S C n n env H
  rw [e0] at h1
  exact h1.trans (by kernel_rfl)


theorem f14_eq {gl : Bool} {E : Ext} (hE : E 14 = none) (n : Nat) (x0 : Value) (H : Heap) : acall Try.prog gl E (n + 1) 14 [x0] H = f14 real (acall Try.prog gl E n) n x0 H :=
  (acall_eq (N := 30) Try.func14 (by kernel_rfl) (by kernel_rfl) hE (okgl f14_c (by kernel_rfl)) (by kernel_rfl)).trans (f14_main real _ n x0 H)

/-! incunable/incunableref00.EqBytes -/
noncomputable def f15_c : Code := (Try.f15.body).getD .skip

noncomputable def f15_L0 (S : Seam (Value × Heap)) (C : CallF) (n : Nat) : Nat → Value → Value → Value → Heap → Option (Value × Heap)
 | 0, _, _, _, _ => none
 | m + 1, x0_7, x1_8, x5_9, H10 =>
   S.b (up (lenS x0_7) H10) fun x13_11 H12 =>
   S.b (up (binB Try.prog .lss 3 x5_9 x13_11) H12) fun x14_13 H14 =>
   S.i x14_13
   (S.b (up (iAddrS 1 x0_7 x5_9) H14) fun x19_15 H16 =>
    S.c true (S.b (ldC x19_15 H16) fun x20_17 H18 =>
    S.b (up (iAddrS 1 x1_8 x5_9) H18) fun x23_19 H20 =>
    S.c true (S.b (ldC x23_19 H20) fun x24_21 H22 =>
    S.b (up (binB Try.prog .neq 5 x20_17 x24_21) H22) fun x25_23 H24 =>
    S.i x25_23
    (some ((.bool false), H24))
    (S.b (up (binB Try.prog .add 3 x5_9 (.int .i64 1)) H24) fun x16_25 H26 =>
     f15_L0 S C n m x0_7 x1_8 x16_25 H26))))
   (some ((.bool true), H14))

theorem f15_L0_eq (S : Seam (Value × Heap)) (C : CallF) (n : Nat) : ∀ (m : Nat) (env : Env) (H : Heap), aloopK (acodeK S Try.prog C n 26 (cAt f15_c [1, 1, 0, 1, 0, 0])) m env H (kAt S Try.prog C n 26 f15_c [1, 1, 0, 1, 0] (fin Try.prog Try.f15)) = f15_L0 S C n m (env 0) (env 1) (env 5) H := by
  intro m env H
  refine aloopK_eq (L := fun m env H => f15_L0 S C n m (env 0) (env 1) (env 5) H) (fun env H => rfl) (fun m env H => ?_) m env H
  kernel_rfl


noncomputable def f15 (S : Seam (Value × Heap)) (C : CallF) (n : Nat) (x0 : Value) (x1 : Value) (H : Heap) : Option (Value × Heap) :=
 S.b (up (lenS x0) H) fun x7_1 H2 =>
 S.b (up (lenS x1) H2) fun x9_3 H4 =>
 S.b (up (binB Try.prog .neq 3 x7_1 x9_3) H4) fun x10_5 H6 =>
 S.i x10_5
 (some ((.bool false), H6))
 (f15_L0 S C n n x0 x1 (.int .i64 0) H6)

noncomputable def f15G (S : Seam (Value × Heap)) (C : CallF) (n : Nat) (P0 : Env → Heap → Option (Value × Heap)) (x0 : Value) (x1 : Value) (H : Heap) : Option (Value × Heap) :=
 S.b (up (lenS x0) H) fun x7_27 H28 =>
 S.b (up (lenS x1) H28) fun x9_29 H30 =>
 S.b (up (binB Try.prog .neq 3 x7_27 x9_29) H30) fun x10_31 H32 =>
 S.i x10_31
 (some ((.bool false), H32))
 (P0 (putE 26 (putE 26 (putE 26 (putE 26 (putE 26 (putE 26 (putE 26 (env0 [x0, x1]) (some 4) (.bool false)) (some 6) x0) (some 7) x7_27) (some 8) x1) (some 9) x9_29) (some 10) x10_31) (some 5) (.int .i64 0)) H32)

theorem f15_main (S : Seam (Value × Heap)) (C : CallF) (n : Nat) (x0 : Value) (x1 : Value) (H : Heap) : acodeK S Try.prog C n 26 f15_c (env0 [x0, x1]) H (fin Try.prog Try.f15) = f15 S C n x0 x1 H := by
  have h1 : acodeK S Try.prog C n 26 f15_c (env0 [x0, x1]) H (fin Try.prog Try.f15) = f15G S C n (fun env H => aloopK (acodeK S Try.prog C n 26 (cAt f15_c [1, 1, 0, 1, 0, 0])) n env H (kAt S Try.prog C n 26 f15_c [1, 1, 0, 1, 0] (fin Try.prog Try.f15))) x0 x1 H := by kernel_rfl
  have e0 : (fun env H => aloopK (acodeK S Try.prog C n 26 (cAt f15_c [1, 1, 0, 1, 0, 0])) n env H (kAt S Try.prog C n 26 f15_c [1, 1, 0, 1, 0] (fin Try.prog Try.f15))) = (fun env H => f15_L0 S C n n (env 0) (env 1) (env 5) H) := by funext env H; exact f15_L0_eq S C n n env H
  rw [e0] at h1
  exact h1.trans (by kernel_rfl)


theorem f15_eq {gl : Bool} {E : Ext} (hE : E 15 = none) (n : Nat) (x0 : Value) (x1 : Value) (H : Heap) : acall Try.prog gl E (n + 1) 15 [x0, x1] H = f15 real (acall Try.prog gl E n) n x0 x1 H :=
  (acall_eq (N := 26) Try.func15 (by kernel_rfl) (by kernel_rfl) hE (okgl f15_c (by kernel_rfl)) (by kernel_rfl)).trans (f15_main real _ n x0 x1 H)

/-! incunable/keys.Kind -/
noncomputable def f16_c : Code := (Try.f16.body).getD .skip

noncomputable def f16 (S : Seam (Value × Heap)) (C : CallF) (n : Nat) (x0 : Value) (H : Heap) : Option (Value × Heap) :=
 S.b (up (lenS x0) H) fun x4_1 H2 =>
 S.b (up (binB Try.prog .eql 3 x4_1 (.int .i64 0)) H2) fun x5_3 H4 =>
 S.b (gd (wd x5_3 false) (some (x0, H4)) H4) fun x7_5 H6 =>
 S.b (gd (wd x5_3 false) (up (iAddrS 1 x7_5 (.int .i64 0)) H6) H6) fun x8_7 H8 =>
 S.b (gd (wd x5_3 false) (ldC x8_7 H8) H8) fun x9_9 H10 =>
 S.b (gd (wd x5_3 false) (cvI .i64 x9_9 H10) H10) fun x10_11 H12 =>
 S.b (gd (wd x5_3 false) (up (binB Try.prog .gtr 3 x10_11 (.int .i64 4)) H12) H12) fun x11_13 H14 =>
 S.b (pickV x5_3 (.bool true) x11_13 H14) fun x12_15 H16 =>
 S.i x12_15
 (some ((.int .i64 0), H16))
 (S.b (up (iAddrS 1 x0 (.int .i64 0)) H16) fun x14_17 H18 =>
  S.b (ldC x14_17 H18) fun x15_19 H20 =>
  S.b (cvI .i64 x15_19 H20) fun x16_21 H22 =>
  some (x16_21, H22))

theorem f16_main (S : Seam (Value × Heap)) (C : CallF) (n : Nat) (x0 : Value) (H : Heap) : acodeK S Try.prog C n 17 f16_c (env0 [x0]) H (fin Try.prog Try.f16) = f16 S C n x0 H := by
  kernel_rfl


theorem f16_eq {gl : Bool} {E : Ext} (hE : E 16 = none) (n : Nat) (x0 : Value) (H : Heap) : acall Try.prog gl E (n + 1) 16 [x0] H = f16 real (acall Try.prog gl E n) n x0 H :=
  (acall_eq (N := 17) Try.func16 (by kernel_rfl) (by kernel_rfl) hE (okgl f16_c (by kernel_rfl)) (by kernel_rfl)).trans (f16_main real _ n x0 H)

/-! incunable/incunableref25.Kind -/
noncomputable def f17_c : Code := (Try.f17.body).getD .skip

noncomputable def f17 (S : Seam (Value × Heap)) (C : CallF) (n : Nat) (x0 : Value) (H : Heap) : Option (Value × Heap) :=
 S.b (up (lenS x0) H) fun x4_1 H2 =>
 S.b (up (binB Try.prog .eql 3 x4_1 (.int .i64 0)) H2) fun x5_3 H4 =>
 S.b (gd (wd x5_3 false) (some (x0, H4)) H4) fun x7_5 H6 =>
 S.b (gd (wd x5_3 false) (up (iAddrS 1 x7_5 (.int .i64 0)) H6) H6) fun x8_7 H8 =>
 S.b (gd (wd x5_3 false) (ldC x8_7 H8) H8) fun x9_9 H10 =>
 S.b (gd (wd x5_3 false) (up (binB Try.prog .gtr 5 x9_9 (.int .u8 4)) H10) H10) fun x10_11 H12 =>
 S.b (pickV x5_3 (.bool true) x10_11 H12) fun x11_13 H14 =>
 S.i x11_13
 (some ((.int .i64 0), H14))
 (S.b (up (iAddrS 1 x0 (.int .i64 0)) H14) fun x13_15 H16 =>
  S.b (ldC x13_15 H16) fun x14_17 H18 =>
  S.b (cvI .i64 x14_17 H18) fun x15_19 H20 =>
  some (x15_19, H20))

theorem f17_main (S : Seam (Value × Heap)) (C : CallF) (n : Nat) (x0 : Value) (H : Heap) : acodeK S Try.prog C n 16 f17_c (env0 [x0]) H (fin Try.prog Try.f17) = f17 S C n x0 H := by
  kernel_rfl


theorem f17_eq {gl : Bool} {E : Ext} (hE : E 17 = none) (n : Nat) (x0 : Value) (H : Heap) : acall Try.prog gl E (n + 1) 17 [x0] H = f17 real (acall Try.prog gl E n) n x0 H :=
  (acall_eq (N := 16) Try.func17 (by kernel_rfl) (by kernel_rfl) hE (okgl f17_c (by kernel_rfl)) (by kernel_rfl)).trans (f17_main real _ n x0 H)

/-! (*incunable/incunableref25.writer).number -/
noncomputable def f33_c : Code := (Try.f33.body).getD .skip

noncomputable def f33_J1 (S : Seam (Value × Heap)) (C : CallF) (n : Nat) (x0_14 x4_15 : Value) (H16 : Heap) : Option (Value × Heap) :=
 S.b (nilC x0_14 H16) fun x18_17 H18 =>
 S.b (up (fAddr 0 x18_17) H18) fun x19_19 H20 =>
 S.b (ldC x19_19 H20) fun x20_21 H22 =>
 S.b (app 1 1 x20_21 x4_15 H22) fun x22_23 H24 =>
 S.b (nilC x0_14 H24) fun x23_25 H26 =>
 S.b (up (fAddr 0 x23_25) H26) fun x24_27 H28 =>
 S.b (stV 1 x24_27 x22_23 H28) fun _ H29 =>
 some (.tuple #[], H29)

noncomputable def f33 (S : Seam (Value × Heap)) (C : CallF) (n : Nat) (x0 : Value) (x1 : Value) (H : Heap) : Option (Value × Heap) :=
 S.b (C 47 [x1] H) fun x8_1 H2 =>
 S.b (extr 0 x8_1 H2) fun x9_3 H4 =>
 S.b (extr 1 x8_1 H4) fun x10_5 H6 =>
 S.b (up (binB Try.prog .neq 25 x10_5 (.int .i64 0)) H6) fun x12_7 H8 =>
 S.i x12_7
 (S.b (nilC x0 H8) fun x14_9 H10 =>
  S.b (up (fAddr 1 x14_9) H10) fun x15_11 H12 =>
  S.b (stV 1 x15_11 (.bool true) H12) fun _ H13 =>
  f33_J1 S C n x0 x9_3 H13)
 (f33_J1 S C n x0 x9_3 H8)

theorem f33_main (S : Seam (Value × Heap)) (C : CallF) (n : Nat) (x0 : Value) (x1 : Value) (H : Heap) : acodeK S Try.prog C n 25 f33_c (env0 [x0, x1]) H (fin Try.prog Try.f33) = f33 S C n x0 x1 H := by
  kernel_rfl


theorem f33_eq {gl : Bool} {E : Ext} (hE : E 33 = none) (n : Nat) (x0 : Value) (x1 : Value) (H : Heap) : acall Try.prog gl E (n + 1) 33 [x0, x1] H = f33 real (acall Try.prog gl E n) n x0 x1 H :=
  (acall_eq (N := 25) Try.func33 (by kernel_rfl) (by kernel_rfl) hE (okgl f33_c (by kernel_rfl)) (by kernel_rfl)).trans (f33_main real _ n x0 x1 H)

/-! (*incunable/incunableref25.writer).text -/
noncomputable def f34_c : Code := (Try.f34.body).getD .skip

noncomputable def f34 (S : Seam (Value × Heap)) (C : CallF) (n : Nat) (x0 : Value) (x1 : Value) (H : Heap) : Option (Value × Heap) :=
 S.b (up (lenStr x1) H) fun x6_1 H2 =>
 S.b (C 33 [x0, x6_1] H2) fun x7_3 H4 =>
 S.b (nilC x0 H4) fun x10_5 H6 =>
 S.b (up (fAddr 0 x10_5) H6) fun x11_7 H8 =>
 S.b (ldC x11_7 H8) fun x12_9 H10 =>
 S.b (app 1 1 x12_9 x1 H10) fun x14_11 H12 =>
 S.b (nilC x0 H12) fun x15_13 H14 =>
 S.b (up (fAddr 0 x15_13) H14) fun x16_15 H16 =>
 S.b (stV 1 x16_15 x14_11 H16) fun _ H17 =>
 some (.tuple #[], H17)

theorem f34_main (S : Seam (Value × Heap)) (C : CallF) (n : Nat) (x0 : Value) (x1 : Value) (H : Heap) : acodeK S Try.prog C n 17 f34_c (env0 [x0, x1]) H (fin Try.prog Try.f34) = f34 S C n x0 x1 H := by
  kernel_rfl


theorem f34_eq {gl : Bool} {E : Ext} (hE : E 34 = none) (n : Nat) (x0 : Value) (x1 : Value) (H : Heap) : acall Try.prog gl E (n + 1) 34 [x0, x1] H = f34 real (acall Try.prog gl E n) n x0 x1 H :=
  (acall_eq (N := 17) Try.func34 (by kernel_rfl) (by kernel_rfl) hE (okgl f34_c (by kernel_rfl)) (by kernel_rfl)).trans (f34_main real _ n x0 x1 H)

/-! (*incunable/incunableref25.writer).ends -/
noncomputable def f35_c : Code := (Try.f35.body).getD .skip

noncomputable def f35 (S : Seam (Value × Heap)) (C : CallF) (n : Nat) (x0 : Value) (H : Heap) : Option (Value × Heap) :=
 S.b (nilC x0 H) fun x5_1 H2 =>
 S.b (up (fAddr 1 x5_1) H2) fun x6_3 H4 =>
 S.b (ldC x6_3 H4) fun x7_5 H6 =>
 S.i x7_5
 (some (.tuple #[(.slice none 0 0), (.int .i64 2)], H6))
 (S.b (nilC x0 H6) fun x9_7 H8 =>
  S.b (up (fAddr 0 x9_7) H8) fun x10_9 H10 =>
  S.b (ldC x10_9 H10) fun x11_11 H12 =>
  S.b (up (lenS x11_11) H12) fun x12_13 H14 =>
  S.b (up (binB Try.prog .gtr 3 x12_13 (.int .i64 65536)) H14) fun x13_15 H16 =>
  S.i x13_15
  (some (.tuple #[(.slice none 0 0), (.int .i64 5)], H16))
  (S.b (nilC x0 H16) fun x15_17 H18 =>
   S.b (up (fAddr 0 x15_17) H18) fun x16_19 H20 =>
   S.b (ldC x16_19 H20) fun x17_21 H22 =>
   some (.tuple #[x17_21, (.int .i64 0)], H22)))

theorem f35_main (S : Seam (Value × Heap)) (C : CallF) (n : Nat) (x0 : Value) (H : Heap) : acodeK S Try.prog C n 18 f35_c (env0 [x0]) H (fin Try.prog Try.f35) = f35 S C n x0 H := by
  kernel_rfl


theorem f35_eq {gl : Bool} {E : Ext} (hE : E 35 = none) (n : Nat) (x0 : Value) (H : Heap) : acall Try.prog gl E (n + 1) 35 [x0] H = f35 real (acall Try.prog gl E n) n x0 H :=
  (acall_eq (N := 18) Try.func35 (by kernel_rfl) (by kernel_rfl) hE (okgl f35_c (by kernel_rfl)) (by kernel_rfl)).trans (f35_main real _ n x0 H)

/-! (*incunable/incunableref25.writer).part -/
noncomputable def f38_c : Code := (Try.f38.body).getD .skip

noncomputable def f38_L2 (S : Seam (Value × Heap)) (C : CallF) (n : Nat) (R1 : Value→Value→Value→Heap→Option (Value × Heap)) : Nat → Value → Value → Value → Value → Value → Heap → Option (Value × Heap)
 | 0, _, _, _, _, _, _ => none
 | m + 1, x0_124, x3_125, x5_126, x6_127, x7_128, H129 =>
   S.b (up (fAddr 1 x6_127) H129) fun x78_130 H131 =>
   S.b (ldC x78_130 H131) fun x79_132 H133 =>
   S.b (up (lenS x79_132) H133) fun x80_134 H135 =>
   S.b (up (binB Try.prog .lss 3 x7_128 x80_134) H135) fun x81_136 H137 =>
   S.i x81_136
   (S.b (up (fAddr 1 x6_127) H137) fun x85_138 H139 =>
    S.b (ldC x85_138 H139) fun x86_140 H141 =>
    S.b (up (iAddrS 1 x86_140 x7_128) H141) fun x88_142 H143 =>
    S.b (ldC x88_142 H143) fun x89_144 H145 =>
    S.b (C 33 [x0_124, x89_144] H145) fun x90_146 H147 =>
    S.b (up (binB Try.prog .add 3 x7_128 (.int .i64 1)) H147) fun x83_148 H149 =>
    f38_L2 S C n R1 m x0_124 x3_125 x5_126 x6_127 x83_148 H149)
   (S.b (up (fAddr 2 x6_127) H137) fun x92_150 H151 =>
    S.b (up (fAddr 0 x92_150) H151) fun x93_152 H153 =>
    S.b (ldC x93_152 H153) fun x94_154 H155 =>
    S.b (C 33 [x0_124, x94_154] H155) fun x95_156 H157 =>
    S.b (up (fAddr 2 x6_127) H157) fun x97_158 H159 =>
    S.b (up (fAddr 1 x97_158) H159) fun x98_160 H161 =>
    S.b (ldC x98_160 H161) fun x99_162 H163 =>
    S.b (C 33 [x0_124, x99_162] H163) fun x100_164 H165 =>
    S.b (up (binB Try.prog .add 3 x5_126 (.int .i64 1)) H165) fun x62_166 H167 =>
    R1 x0_124 x3_125 x62_166 H167)

theorem f38_L2_eq (S : Seam (Value × Heap)) (C : CallF) (n : Nat) (R1 : Value→Value→Value→Heap→Option (Value × Heap)) : ∀ (m : Nat) (env : Env) (H : Heap), aloopK (acodeK S Try.prog C n 101 (cAt f38_c [1, 1, 1, 1, 1, 1, 1, 0, 0, 1, 0, 0, 1, 1, 1, 0, 1, 0, 0])) m env H (kAt S Try.prog C n 101 (cAt f38_c [1, 1, 1, 1, 1, 1, 1, 0, 0]) [1, 0, 0, 1, 1, 1, 0, 1, 0] (onNormal (fun env' H' => R1 (env' 0) (env' 3) (env' 5) H') (kAt S Try.prog C n 101 f38_c [1, 1, 1, 1, 1, 1, 1, 0] (fin Try.prog Try.f38)))) = f38_L2 S C n R1 m (env 0) (env 3) (env 5) (env 6) (env 7) H := by
  intro m env H
  refine aloopK_eq (L := fun m env H => f38_L2 S C n R1 m (env 0) (env 3) (env 5) (env 6) (env 7) H) (fun env H => rfl) (fun m env H => ?_) m env H
  kernel_rfl


noncomputable def f38_L1 (S : Seam (Value × Heap)) (C : CallF) (n : Nat) : Nat → Value → Value → Value → Heap → Option (Value × Heap)
 | 0, _, _, _, _ => none
 | m + 1, x0_87, x3_88, x5_89, H90 =>
   S.b (up (fAddr 4 x3_88) H90) fun x57_91 H92 =>
   S.b (ldC x57_91 H92) fun x58_93 H94 =>
   S.b (up (lenS x58_93) H94) fun x59_95 H96 =>
   S.b (up (binB Try.prog .lss 3 x5_89 x59_95) H96) fun x60_97 H98 =>
   S.i x60_97
   (S.b (up (fAddr 4 x3_88) H98) fun x63_99 H100 =>
    S.b (ldC x63_99 H100) fun x64_101 H102 =>
    S.b (up (iAddrS 4 x64_101 x5_89) H102) fun x66_103 H104 =>
    S.b (ldA 4 x66_103 H104) fun x67_105 H106 =>
    S.b (newV [(.int .i64 0), (.slice none 0 0), (.int .i64 0), (.int .i64 0)] H106) fun x6_107 H108 =>
    S.b (stV 4 x6_107 x67_105 H108) fun _ H109 =>
    S.b (up (fAddr 0 x6_107) H109) fun x69_110 H111 =>
    S.b (ldC x69_110 H111) fun x70_112 H113 =>
    S.b (C 33 [x0_87, x70_112] H113) fun x71_114 H115 =>
    S.b (up (fAddr 1 x6_107) H115) fun x73_116 H117 =>
    S.b (ldC x73_116 H117) fun x74_118 H119 =>
    S.b (up (lenS x74_118) H119) fun x75_120 H121 =>
    S.b (C 33 [x0_87, x75_120] H121) fun x76_122 H123 =>
    f38_L2 S C n (f38_L1 S C n m) n x0_87 x3_88 x5_89 x6_107 (.int .i64 0) H123)
   (some (.tuple #[], H98))

noncomputable def f38_L1G (S : Seam (Value × Heap)) (C : CallF) (n : Nat) (R1 : Value→Value→Value→Heap→Option (Value × Heap)) (P2 : Env → Heap → Option (Value × Heap)) (env : Env) (H : Heap) : Option (Value × Heap) :=
 S.b (up (fAddr 4 (env 3)) H) fun x57_168 H169 =>
 S.b (ldC x57_168 H169) fun x58_170 H171 =>
 S.b (up (lenS x58_170) H171) fun x59_172 H173 =>
 S.b (up (binB Try.prog .lss 3 (env 5) x59_172) H173) fun x60_174 H175 =>
 S.i x60_174
 (S.b (up (fAddr 4 (env 3)) H175) fun x63_176 H177 =>
  S.b (ldC x63_176 H177) fun x64_178 H179 =>
  S.b (up (iAddrS 4 x64_178 (env 5)) H179) fun x66_180 H181 =>
  S.b (ldA 4 x66_180 H181) fun x67_182 H183 =>
  S.b (newV [(.int .i64 0), (.slice none 0 0), (.int .i64 0), (.int .i64 0)] H183) fun x6_184 H185 =>
  S.b (stV 4 x6_184 x67_182 H185) fun u186 H187 =>
  S.b (up (fAddr 0 x6_184) H187) fun x69_188 H189 =>
  S.b (ldC x69_188 H189) fun x70_190 H191 =>
  S.b (C 33 [(env 0), x70_190] H191) fun x71_192 H193 =>
  S.b (up (fAddr 1 x6_184) H193) fun x73_194 H195 =>
  S.b (ldC x73_194 H195) fun x74_196 H197 =>
  S.b (up (lenS x74_196) H197) fun x75_198 H199 =>
  S.b (C 33 [(env 0), x75_198] H199) fun x76_200 H201 =>
  P2 (putE 101 (putE 101 (putE 101 (putE 101 (putE 101 (putE 101 (putE 101 (putE 101 (putE 101 (putE 101 (putE 101 (putE 101 (putE 101 (putE 101 (putE 101 (putE 101 (putE 101 (putE 101 (putE 101 (putE 101 (putE 101 (putE 101 env (some 56) (env 5)) (some 57) x57_168) (some 58) x58_170) (some 59) x59_172) (some 60) x60_174) (some 63) x63_176) (some 64) x64_178) (some 65) (env 5)) (some 66) x66_180) (some 67) x67_182) (some 6) x6_184) none u186) (some 68) (env 0)) (some 69) x69_188) (some 70) x70_190) (some 71) x71_192) (some 72) (env 0)) (some 73) x73_194) (some 74) x74_196) (some 75) x75_198) (some 76) x76_200) (some 7) (.int .i64 0)) H201)
 (some (.tuple #[], H175))

theorem f38_L1_eq (S : Seam (Value × Heap)) (C : CallF) (n : Nat) : ∀ (m : Nat) (env : Env) (H : Heap), aloopK (acodeK S Try.prog C n 101 (cAt f38_c [1, 1, 1, 1, 1, 1, 1, 0, 0])) m env H (kAt S Try.prog C n 101 f38_c [1, 1, 1, 1, 1, 1, 1, 0] (fin Try.prog Try.f38)) = f38_L1 S C n m (env 0) (env 3) (env 5) H := by
  intro m env H
  refine aloopK_eq (L := fun m env H => f38_L1 S C n m (env 0) (env 3) (env 5) H) (fun env H => rfl) (fun m env H => ?_) m env H
  have h1 : acodeK S Try.prog C n 101 (cAt f38_c [1, 1, 1, 1, 1, 1, 1, 0, 0]) env H (onNormal (fun env' H' => f38_L1 S C n m (env' 0) (env' 3) (env' 5) H') (kAt S Try.prog C n 101 f38_c [1, 1, 1, 1, 1, 1, 1, 0] (fin Try.prog Try.f38))) = f38_L1G S C n (f38_L1 S C n m) (fun env H => aloopK (acodeK S Try.prog C n 101 (cAt f38_c [1, 1, 1, 1, 1, 1, 1, 0, 0, 1, 0, 0, 1, 1, 1, 0, 1, 0, 0])) n env H (kAt S Try.prog C n 101 (cAt f38_c [1, 1, 1, 1, 1, 1, 1, 0, 0]) [1, 0, 0, 1, 1, 1, 0, 1, 0] (onNormal (fun env' H' => (f38_L1 S C n m) (env' 0) (env' 3) (env' 5) H') (kAt S Try.prog C n 101 f38_c [1, 1, 1, 1, 1, 1, 1, 0] (fin Try.prog Try.f38))))) env H := by kernel_rfl
  have e0 : (fun env H => aloopK (acodeK S Try.prog C n 101 (cAt f38_c [1, 1, 1, 1, 1, 1, 1, 0, 0, 1, 0, 0, 1, 1, 1, 0, 1, 0, 0])) n env H (kAt S Try.prog C n 101 (cAt f38_c [1, 1, 1, 1, 1, 1, 1, 0, 0]) [1, 0, 0, 1, 1, 1, 0, 1, 0] (onNormal (fun env' H' => (f38_L1 S C n m) (env' 0) (env' 3) (env' 5) H') (kAt S Try.prog C n 101 f38_c [1, 1, 1, 1, 1, 1, 1, 0] (fin Try.prog Try.f38))))) = (fun env H => f38_L2 S C n (f38_L1 S C n m) n (env 0) (env 3) (env 5) (env 6) (env 7) H) := by funext env H; exact f38_L2_eq S C n (f38_L1 S C n m) n env H
  rw [e0] at h1
  exact h1.trans (by kernel_rfl)


noncomputable def f38_L0 (S : Seam (Value × Heap)) (C : CallF) (n : Nat) : Nat → Value → Value → Value → Heap → Option (Value × Heap)
 | 0, _, _, _, _ => none
 | m + 1, x0_41, x3_42, x4_43, H44 =>
   S.b (up (fAddr 1 x3_42) H44) fun x29_45 H46 =>
   S.b (ldC x29_45 H46) fun x30_47 H48 =>
   S.b (up (lenS x30_47) H48) fun x31_49 H50 =>
   S.b (up (binB Try.prog .lss 3 x4_43 x31_49) H50) fun x32_51 H52 =>
   S.i x32_51
   (S.b (up (fAddr 1 x3_42) H52) fun x36_53 H54 =>
    S.b (ldC x36_53 H54) fun x37_55 H56 =>
    S.b (up (iAddrS 2 x37_55 x4_43) H56) fun x39_57 H58 =>
    S.b (up (fAddr 0 x39_57) H58) fun x40_59 H60 =>
    S.b (ldC x40_59 H60) fun x41_61 H62 =>
    S.b (C 33 [x0_41, x41_61] H62) fun x42_63 H64 =>
    S.b (up (fAddr 1 x3_42) H64) fun x44_65 H66 =>
    S.b (ldC x44_65 H66) fun x45_67 H68 =>
    S.b (up (iAddrS 2 x45_67 x4_43) H68) fun x47_69 H70 =>
    S.b (up (fAddr 1 x47_69) H70) fun x48_71 H72 =>
    S.b (ldC x48_71 H72) fun x49_73 H74 =>
    S.b (C 33 [x0_41, x49_73] H74) fun x50_75 H76 =>
    S.b (up (binB Try.prog .add 3 x4_43 (.int .i64 1)) H76) fun x34_77 H78 =>
    f38_L0 S C n m x0_41 x3_42 x34_77 H78)
   (S.b (up (fAddr 4 x3_42) H52) fun x52_79 H80 =>
    S.b (ldC x52_79 H80) fun x53_81 H82 =>
    S.b (up (lenS x53_81) H82) fun x54_83 H84 =>
    S.b (C 33 [x0_41, x54_83] H84) fun x55_85 H86 =>
    f38_L1 S C n n x0_41 x3_42 (.int .i64 0) H86)

noncomputable def f38_L0G (S : Seam (Value × Heap)) (C : CallF) (n : Nat) (R0 : Value→Value→Value→Heap→Option (Value × Heap)) (P1 : Env → Heap → Option (Value × Heap)) (env : Env) (H : Heap) : Option (Value × Heap) :=
 S.b (up (fAddr 1 (env 3)) H) fun x29_202 H203 =>
 S.b (ldC x29_202 H203) fun x30_204 H205 =>
 S.b (up (lenS x30_204) H205) fun x31_206 H207 =>
 S.b (up (binB Try.prog .lss 3 (env 4) x31_206) H207) fun x32_208 H209 =>
 S.i x32_208
 (S.b (up (fAddr 1 (env 3)) H209) fun x36_210 H211 =>
  S.b (ldC x36_210 H211) fun x37_212 H213 =>
  S.b (up (iAddrS 2 x37_212 (env 4)) H213) fun x39_214 H215 =>
  S.b (up (fAddr 0 x39_214) H215) fun x40_216 H217 =>
  S.b (ldC x40_216 H217) fun x41_218 H219 =>
  S.b (C 33 [(env 0), x41_218] H219) fun x42_220 H221 =>
  S.b (up (fAddr 1 (env 3)) H221) fun x44_222 H223 =>
  S.b (ldC x44_222 H223) fun x45_224 H225 =>
  S.b (up (iAddrS 2 x45_224 (env 4)) H225) fun x47_226 H227 =>
  S.b (up (fAddr 1 x47_226) H227) fun x48_228 H229 =>
  S.b (ldC x48_228 H229) fun x49_230 H231 =>
  S.b (C 33 [(env 0), x49_230] H231) fun x50_232 H233 =>
  S.b (up (binB Try.prog .add 3 (env 4) (.int .i64 1)) H233) fun x34_234 H235 =>
  R0 (env 0) (env 3) x34_234 H235)
 (S.b (up (fAddr 4 (env 3)) H209) fun x52_236 H237 =>
  S.b (ldC x52_236 H237) fun x53_238 H239 =>
  S.b (up (lenS x53_238) H239) fun x54_240 H241 =>
  S.b (C 33 [(env 0), x54_240] H241) fun x55_242 H243 =>
  P1 (putE 101 (putE 101 (putE 101 (putE 101 (putE 101 (putE 101 (putE 101 (putE 101 (putE 101 (putE 101 (putE 101 env (some 28) (env 4)) (some 29) x29_202) (some 30) x30_204) (some 31) x31_206) (some 32) x32_208) (some 51) (env 0)) (some 52) x52_236) (some 53) x53_238) (some 54) x54_240) (some 55) x55_242) (some 5) (.int .i64 0)) H243)

theorem f38_L0_eq (S : Seam (Value × Heap)) (C : CallF) (n : Nat) : ∀ (m : Nat) (env : Env) (H : Heap), aloopK (acodeK S Try.prog C n 101 (cAt f38_c [1, 1, 1, 1, 0, 1, 0, 0])) m env H (kAt S Try.prog C n 101 f38_c [1, 1, 1, 1, 0, 1, 0] (fin Try.prog Try.f38)) = f38_L0 S C n m (env 0) (env 3) (env 4) H := by
  intro m env H
  refine aloopK_eq (L := fun m env H => f38_L0 S C n m (env 0) (env 3) (env 4) H) (fun env H => rfl) (fun m env H => ?_) m env H
  have h1 : acodeK S Try.prog C n 101 (cAt f38_c [1, 1, 1, 1, 0, 1, 0, 0]) env H (onNormal (fun env' H' => f38_L0 S C n m (env' 0) (env' 3) (env' 4) H') (kAt S Try.prog C n 101 f38_c [1, 1, 1, 1, 0, 1, 0] (fin Try.prog Try.f38))) = f38_L0G S C n (f38_L0 S C n m) (fun env H => aloopK (acodeK S Try.prog C n 101 (cAt f38_c [1, 1, 1, 1, 1, 1, 1, 0, 0])) n env H (kAt S Try.prog C n 101 f38_c [1, 1, 1, 1, 1, 1, 1, 0] (fin Try.prog Try.f38))) env H := by kernel_rfl
  have e0 : (fun env H => aloopK (acodeK S Try.prog C n 101 (cAt f38_c [1, 1, 1, 1, 1, 1, 1, 0, 0])) n env H (kAt S Try.prog C n 101 f38_c [1, 1, 1, 1, 1, 1, 1, 0] (fin Try.prog Try.f38))) = (fun env H => f38_L1 S C n n (env 0) (env 3) (env 5) H) := by funext env H; exact f38_L1_eq S C n n env H
  rw [e0] at h1
  exact h1.trans (by kernel_rfl)


noncomputable def f38_J1 (S : Seam (Value × Heap)) (C : CallF) (n : Nat) (x0_22 x3_23 : Value) (H24 : Heap) : Option (Value × Heap) :=
 S.b (up (fAddr 0 x3_23) H24) fun x19_25 H26 =>
 S.b (ldC x19_25 H26) fun x20_27 H28 =>
 S.b (up (lenS x20_27) H28) fun x21_29 H30 =>
 S.b (C 33 [x0_22, x21_29] H30) fun x22_31 H32 =>
 S.b (up (fAddr 3 x3_23) H32) fun x24_33 H34 =>
 S.b (ldC x24_33 H34) fun x25_35 H36 =>
 S.b (up (lenS x25_35) H36) fun x26_37 H38 =>
 S.b (C 33 [x0_22, x26_37] H38) fun x27_39 H40 =>
 f38_L0 S C n n x0_22 x3_23 (.int .i64 0) H40

noncomputable def f38 (S : Seam (Value × Heap)) (C : CallF) (n : Nat) (x0 : Value) (x1 : Value) (H : Heap) : Option (Value × Heap) :=
 S.b (newV (Value.cells x1).toList H) fun x3_1 H2 =>
 S.b (up (fAddr 1 x3_1) H2) fun x8_3 H4 =>
 S.b (ldC x8_3 H4) fun x9_5 H6 =>
 S.b (up (lenS x9_5) H6) fun x10_7 H8 =>
 S.b (up (fAddr 0 x3_1) H8) fun x11_9 H10 =>
 S.b (ldC x11_9 H10) fun x12_11 H12 =>
 S.b (up (lenS x12_11) H12) fun x13_13 H14 =>
 S.b (up (binB Try.prog .neq 3 x10_7 x13_13) H14) fun x14_15 H16 =>
 S.i x14_15
 (S.b (nilC x0 H16) fun x16_17 H18 =>
  S.b (up (fAddr 1 x16_17) H18) fun x17_19 H20 =>
  S.b (stV 1 x17_19 (.bool true) H20) fun _ H21 =>
  f38_J1 S C n x0 x3_1 H21)
 (f38_J1 S C n x0 x3_1 H16)

noncomputable def f38G (S : Seam (Value × Heap)) (C : CallF) (n : Nat) (P0 : Env → Heap → Option (Value × Heap)) (x0 : Value) (x1 : Value) (H : Heap) : Option (Value × Heap) :=
 S.b (newV (Value.cells x1).toList H) fun x3_244 H245 =>
 S.b (up (fAddr 1 x3_244) H245) fun x8_246 H247 =>
 S.b (ldC x8_246 H247) fun x9_248 H249 =>
 S.b (up (lenS x9_248) H249) fun x10_250 H251 =>
 S.b (up (fAddr 0 x3_244) H251) fun x11_252 H253 =>
 S.b (ldC x11_252 H253) fun x12_254 H255 =>
 S.b (up (lenS x12_254) H255) fun x13_256 H257 =>
 S.b (up (binB Try.prog .neq 3 x10_250 x13_256) H257) fun x14_258 H259 =>
 S.i x14_258
 (S.b (nilC x0 H259) fun x16_260 H261 =>
  S.b (up (fAddr 1 x16_260) H261) fun x17_262 H263 =>
  S.b (stV 1 x17_262 (.bool true) H263) fun u264 H265 =>
  S.b (up (fAddr 0 x3_244) H265) fun x19_266 H267 =>
  S.b (ldC x19_266 H267) fun x20_268 H269 =>
  S.b (up (lenS x20_268) H269) fun x21_270 H271 =>
  S.b (C 33 [x0, x21_270] H271) fun x22_272 H273 =>
  S.b (up (fAddr 3 x3_244) H273) fun x24_274 H275 =>
  S.b (ldC x24_274 H275) fun x25_276 H277 =>
  S.b (up (lenS x25_276) H277) fun x26_278 H279 =>
  S.b (C 33 [x0, x26_278] H279) fun x27_280 H281 =>
  P0 (putE 101 (putE 101 (putE 101 (putE 101 (putE 101 (putE 101 (putE 101 (putE 101 (putE 101 (putE 101 (putE 101 (putE 101 (putE 101 (putE 101 (putE 101 (putE 101 (putE 101 (putE 101 (putE 101 (putE 101 (putE 101 (putE 101 (putE 101 (env0 [x0, x1]) (some 3) x3_244) (some 8) x8_246) (some 9) x9_248) (some 10) x10_250) (some 11) x11_252) (some 12) x12_254) (some 13) x13_256) (some 14) x14_258) (some 15) x0) (some 16) x16_260) (some 17) x17_262) none u264) (some 18) x0) (some 19) x19_266) (some 20) x20_268) (some 21) x21_270) (some 22) x22_272) (some 23) x0) (some 24) x24_274) (some 25) x25_276) (some 26) x26_278) (some 27) x27_280) (some 4) (.int .i64 0)) H281)
 (S.b (up (fAddr 0 x3_244) H259) fun x19_282 H283 =>
  S.b (ldC x19_282 H283) fun x20_284 H285 =>
  S.b (up (lenS x20_284) H285) fun x21_286 H287 =>
  S.b (C 33 [x0, x21_286] H287) fun x22_288 H289 =>
  S.b (up (fAddr 3 x3_244) H289) fun x24_290 H291 =>
  S.b (ldC x24_290 H291) fun x25_292 H293 =>
  S.b (up (lenS x25_292) H293) fun x26_294 H295 =>
  S.b (C 33 [x0, x26_294] H295) fun x27_296 H297 =>
  P0 (putE 101 (putE 101 (putE 101 (putE 101 (putE 101 (putE 101 (putE 101 (putE 101 (putE 101 (putE 101 (putE 101 (putE 101 (putE 101 (putE 101 (putE 101 (putE 101 (putE 101 (putE 101 (putE 101 (env0 [x0, x1]) (some 3) x3_244) (some 8) x8_246) (some 9) x9_248) (some 10) x10_250) (some 11) x11_252) (some 12) x12_254) (some 13) x13_256) (some 14) x14_258) (some 18) x0) (some 19) x19_282) (some 20) x20_284) (some 21) x21_286) (some 22) x22_288) (some 23) x0) (some 24) x24_290) (some 25) x25_292) (some 26) x26_294) (some 27) x27_296) (some 4) (.int .i64 0)) H297)

theorem f38_main (S : Seam (Value × Heap)) (C : CallF) (n : Nat) (x0 : Value) (x1 : Value) (H : Heap) : acodeK S Try.prog C n 101 f38_c (env0 [x0, x1]) H (fin Try.prog Try.f38) = f38 S C n x0 x1 H := by
  have h1 : acodeK S Try.prog C n 101 f38_c (env0 [x0, x1]) H (fin Try.prog Try.f38) = f38G S C n (fun env H => aloopK (acodeK S Try.prog C n 101 (cAt f38_c [1, 1, 1, 1, 0, 1, 0, 0])) n env H (kAt S Try.prog C n 101 f38_c [1, 1, 1, 1, 0, 1, 0] (fin Try.prog Try.f38))) x0 x1 H := by kernel_rfl
  have e0 : (fun env H => aloopK (acodeK S Try.prog C n 101 (cAt f38_c [1, 1, 1, 1, 0, 1, 0, 0])) n env H (kAt S Try.prog C n 101 f38_c [1, 1, 1, 1, 0, 1, 0] (fin Try.prog Try.f38))) = (fun env H => f38_L0 S C n n (env 0) (env 3) (env 4) H) := by funext env H; exact f38_L0_eq S C n n env H
  rw [e0] at h1
  exact h1.trans (by kernel_rfl)


theorem f38_eq {gl : Bool} {E : Ext} (hE : E 38 = none) (n : Nat) (x0 : Value) (x1 : Value) (H : Heap) : acall Try.prog gl E (n + 1) 38 [x0, x1] H = f38 real (acall Try.prog gl E n) n x0 x1 H :=
  (acall_eq (N := 101) Try.func38 (by kernel_rfl) (by kernel_rfl) hE (okgl f38_c (by kernel_rfl)) (by kernel_rfl)).trans (f38_main real _ n x0 x1 H)

/-! incunable/incunablelaw25.same -/
noncomputable def f19_c : Code := (Try.f19.body).getD .skip

noncomputable def f19_L0 (S : Seam (Value × Heap)) (C : CallF) (n : Nat) : Nat → Value → Value → Value → Heap → Option (Value × Heap)
 | 0, _, _, _, _ => none
 | m + 1, x0_7, x1_8, x5_9, H10 =>
   S.b (up (lenS x0_7) H10) fun x13_11 H12 =>
   S.b (up (binB Try.prog .lss 3 x5_9 x13_11) H12) fun x14_13 H14 =>
   S.i x14_13
   (S.b (up (iAddrS 1 x0_7 x5_9) H14) fun x19_15 H16 =>
    S.c true (S.b (ldC x19_15 H16) fun x20_17 H18 =>
    S.b (up (iAddrS 1 x1_8 x5_9) H18) fun x23_19 H20 =>
    S.c true (S.b (ldC x23_19 H20) fun x24_21 H22 =>
    S.b (up (binB Try.prog .neq 9 x20_17 x24_21) H22) fun x25_23 H24 =>
    S.i x25_23
    (some ((.bool false), H24))
    (S.b (up (binB Try.prog .add 3 x5_9 (.int .i64 1)) H24) fun x16_25 H26 =>
     f19_L0 S C n m x0_7 x1_8 x16_25 H26))))
   (some ((.bool true), H14))

theorem f19_L0_eq (S : Seam (Value × Heap)) (C : CallF) (n : Nat) : ∀ (m : Nat) (env : Env) (H : Heap), aloopK (acodeK S Try.prog C n 26 (cAt f19_c [1, 1, 0, 1, 0, 0])) m env H (kAt S Try.prog C n 26 f19_c [1, 1, 0, 1, 0] (fin Try.prog Try.f19)) = f19_L0 S C n m (env 0) (env 1) (env 5) H := by
  intro m env H
  refine aloopK_eq (L := fun m env H => f19_L0 S C n m (env 0) (env 1) (env 5) H) (fun env H => rfl) (fun m env H => ?_) m env H
  kernel_rfl


noncomputable def f19 (S : Seam (Value × Heap)) (C : CallF) (n : Nat) (x0 : Value) (x1 : Value) (H : Heap) : Option (Value × Heap) :=
 S.b (up (lenS x0) H) fun x7_1 H2 =>
 S.b (up (lenS x1) H2) fun x9_3 H4 =>
 S.b (up (binB Try.prog .neq 3 x7_1 x9_3) H4) fun x10_5 H6 =>
 S.i x10_5
 (some ((.bool false), H6))
 (f19_L0 S C n n x0 x1 (.int .i64 0) H6)

noncomputable def f19G (S : Seam (Value × Heap)) (C : CallF) (n : Nat) (P0 : Env → Heap → Option (Value × Heap)) (x0 : Value) (x1 : Value) (H : Heap) : Option (Value × Heap) :=
 S.b (up (lenS x0) H) fun x7_27 H28 =>
 S.b (up (lenS x1) H28) fun x9_29 H30 =>
 S.b (up (binB Try.prog .neq 3 x7_27 x9_29) H30) fun x10_31 H32 =>
 S.i x10_31
 (some ((.bool false), H32))
 (P0 (putE 26 (putE 26 (putE 26 (putE 26 (putE 26 (putE 26 (putE 26 (env0 [x0, x1]) (some 4) (.bool false)) (some 6) x0) (some 7) x7_27) (some 8) x1) (some 9) x9_29) (some 10) x10_31) (some 5) (.int .i64 0)) H32)

theorem f19_main (S : Seam (Value × Heap)) (C : CallF) (n : Nat) (x0 : Value) (x1 : Value) (H : Heap) : acodeK S Try.prog C n 26 f19_c (env0 [x0, x1]) H (fin Try.prog Try.f19) = f19 S C n x0 x1 H := by
  have h1 : acodeK S Try.prog C n 26 f19_c (env0 [x0, x1]) H (fin Try.prog Try.f19) = f19G S C n (fun env H => aloopK (acodeK S Try.prog C n 26 (cAt f19_c [1, 1, 0, 1, 0, 0])) n env H (kAt S Try.prog C n 26 f19_c [1, 1, 0, 1, 0] (fin Try.prog Try.f19))) x0 x1 H := by kernel_rfl
  have e0 : (fun env H => aloopK (acodeK S Try.prog C n 26 (cAt f19_c [1, 1, 0, 1, 0, 0])) n env H (kAt S Try.prog C n 26 f19_c [1, 1, 0, 1, 0] (fin Try.prog Try.f19))) = (fun env H => f19_L0 S C n n (env 0) (env 1) (env 5) H) := by funext env H; exact f19_L0_eq S C n n env H
  rw [e0] at h1
  exact h1.trans (by kernel_rfl)


theorem f19_eq {gl : Bool} {E : Ext} (hE : E 19 = none) (n : Nat) (x0 : Value) (x1 : Value) (H : Heap) : acall Try.prog gl E (n + 1) 19 [x0, x1] H = f19 real (acall Try.prog gl E n) n x0 x1 H :=
  (acall_eq (N := 26) Try.func19 (by kernel_rfl) (by kernel_rfl) hE (okgl f19_c (by kernel_rfl)) (by kernel_rfl)).trans (f19_main real _ n x0 x1 H)

/-! incunable/incunableref17.texts -/
noncomputable def f39_c : Code := (Try.f39.body).getD .skip

noncomputable def f39_L0 (S : Seam (Value × Heap)) (C : CallF) (n : Nat) : Nat → Value → Value → Value → Heap → Option (Value × Heap)
 | 0, _, _, _, _ => none
 | m + 1, x0_7, x1_8, x5_9, H10 =>
   S.b (up (lenS x0_7) H10) fun x13_11 H12 =>
   S.b (up (binB Try.prog .lss 3 x5_9 x13_11) H12) fun x14_13 H14 =>
   S.i x14_13
   (S.b (up (iAddrS 1 x0_7 x5_9) H14) fun x19_15 H16 =>
    S.c true (S.b (ldC x19_15 H16) fun x20_17 H18 =>
    S.b (up (iAddrS 1 x1_8 x5_9) H18) fun x23_19 H20 =>
    S.c true (S.b (ldC x23_19 H20) fun x24_21 H22 =>
    S.b (up (binB Try.prog .neq 9 x20_17 x24_21) H22) fun x25_23 H24 =>
    S.i x25_23
    (some ((.bool false), H24))
    (S.b (up (binB Try.prog .add 3 x5_9 (.int .i64 1)) H24) fun x16_25 H26 =>
     f39_L0 S C n m x0_7 x1_8 x16_25 H26))))
   (some ((.bool true), H14))

theorem f39_L0_eq (S : Seam (Value × Heap)) (C : CallF) (n : Nat) : ∀ (m : Nat) (env : Env) (H : Heap), aloopK (acodeK S Try.prog C n 26 (cAt f39_c [1, 1, 0, 1, 0, 0])) m env H (kAt S Try.prog C n 26 f39_c [1, 1, 0, 1, 0] (fin Try.prog Try.f39)) = f39_L0 S C n m (env 0) (env 1) (env 5) H := by
  intro m env H
  refine aloopK_eq (L := fun m env H => f39_L0 S C n m (env 0) (env 1) (env 5) H) (fun env H => rfl) (fun m env H => ?_) m env H
  kernel_rfl


noncomputable def f39 (S : Seam (Value × Heap)) (C : CallF) (n : Nat) (x0 : Value) (x1 : Value) (H : Heap) : Option (Value × Heap) :=
 S.b (up (lenS x0) H) fun x7_1 H2 =>
 S.b (up (lenS x1) H2) fun x9_3 H4 =>
 S.b (up (binB Try.prog .neq 3 x7_1 x9_3) H4) fun x10_5 H6 =>
 S.i x10_5
 (some ((.bool false), H6))
 (f39_L0 S C n n x0 x1 (.int .i64 0) H6)

noncomputable def f39G (S : Seam (Value × Heap)) (C : CallF) (n : Nat) (P0 : Env → Heap → Option (Value × Heap)) (x0 : Value) (x1 : Value) (H : Heap) : Option (Value × Heap) :=
 S.b (up (lenS x0) H) fun x7_27 H28 =>
 S.b (up (lenS x1) H28) fun x9_29 H30 =>
 S.b (up (binB Try.prog .neq 3 x7_27 x9_29) H30) fun x10_31 H32 =>
 S.i x10_31
 (some ((.bool false), H32))
 (P0 (putE 26 (putE 26 (putE 26 (putE 26 (putE 26 (putE 26 (putE 26 (env0 [x0, x1]) (some 4) (.bool false)) (some 6) x0) (some 7) x7_27) (some 8) x1) (some 9) x9_29) (some 10) x10_31) (some 5) (.int .i64 0)) H32)

theorem f39_main (S : Seam (Value × Heap)) (C : CallF) (n : Nat) (x0 : Value) (x1 : Value) (H : Heap) : acodeK S Try.prog C n 26 f39_c (env0 [x0, x1]) H (fin Try.prog Try.f39) = f39 S C n x0 x1 H := by
  have h1 : acodeK S Try.prog C n 26 f39_c (env0 [x0, x1]) H (fin Try.prog Try.f39) = f39G S C n (fun env H => aloopK (acodeK S Try.prog C n 26 (cAt f39_c [1, 1, 0, 1, 0, 0])) n env H (kAt S Try.prog C n 26 f39_c [1, 1, 0, 1, 0] (fin Try.prog Try.f39))) x0 x1 H := by kernel_rfl
  have e0 : (fun env H => aloopK (acodeK S Try.prog C n 26 (cAt f39_c [1, 1, 0, 1, 0, 0])) n env H (kAt S Try.prog C n 26 f39_c [1, 1, 0, 1, 0] (fin Try.prog Try.f39))) = (fun env H => f39_L0 S C n n (env 0) (env 1) (env 5) H) := by funext env H; exact f39_L0_eq S C n n env H
  rw [e0] at h1
  exact h1.trans (by kernel_rfl)


theorem f39_eq {gl : Bool} {E : Ext} (hE : E 39 = none) (n : Nat) (x0 : Value) (x1 : Value) (H : Heap) : acall Try.prog gl E (n + 1) 39 [x0, x1] H = f39 real (acall Try.prog gl E n) n x0 x1 H :=
  (acall_eq (N := 26) Try.func39 (by kernel_rfl) (by kernel_rfl) hE (okgl f39_c (by kernel_rfl)) (by kernel_rfl)).trans (f39_main real _ n x0 x1 H)

/-! incunable/incunableref17.like -/
noncomputable def f40_c : Code := (Try.f40.body).getD .skip

noncomputable def f40_L0 (S : Seam (Value × Heap)) (C : CallF) (n : Nat) : Nat → Value → Value → Value → Heap → Option (Value × Heap)
 | 0, _, _, _, _ => none
 | m + 1, x2_31, x3_32, x5_33, H34 =>
   S.b (up (fAddr 1 x2_31) H34) fun x21_35 H36 =>
   S.b (ldC x21_35 H36) fun x22_37 H38 =>
   S.b (up (lenS x22_37) H38) fun x23_39 H40 =>
   S.b (up (binB Try.prog .lss 3 x5_33 x23_39) H40) fun x24_41 H42 =>
   S.i x24_41
   (S.b (up (fAddr 1 x2_31) H42) fun x27_43 H44 =>
    S.c true (S.b (ldC x27_43 H44) fun x28_45 H46 =>
    S.b (up (iAddrS 1 x28_45 x5_33) H46) fun x30_47 H48 =>
    S.c true (S.b (ldC x30_47 H48) fun x31_49 H50 =>
    S.b (up (fAddr 1 x3_32) H50) fun x32_51 H52 =>
    S.c true (S.b (ldC x32_51 H52) fun x33_53 H54 =>
    S.b (up (iAddrS 1 x33_53 x5_33) H54) fun x35_55 H56 =>
    S.c true (S.b (ldC x35_55 H56) fun x36_57 H58 =>
    S.b (up (binB Try.prog .neq 3 x31_49 x36_57) H58) fun x37_59 H60 =>
    S.i x37_59
    (some ((.bool false), H60))
    (S.b (up (binB Try.prog .add 3 x5_33 (.int .i64 1)) H60) fun x26_61 H62 =>
     f40_L0 S C n m x2_31 x3_32 x26_61 H62))))))
   (some ((.bool true), H42))

theorem f40_L0_eq (S : Seam (Value × Heap)) (C : CallF) (n : Nat) : ∀ (m : Nat) (env : Env) (H : Heap), aloopK (acodeK S Try.prog C n 38 (cAt f40_c [1, 1, 0, 1, 0, 0])) m env H (kAt S Try.prog C n 38 f40_c [1, 1, 0, 1, 0] (fin Try.prog Try.f40)) = f40_L0 S C n m (env 2) (env 3) (env 5) H := by
  intro m env H
  refine aloopK_eq (L := fun m env H => f40_L0 S C n m (env 2) (env 3) (env 5) H) (fun env H => rfl) (fun m env H => ?_) m env H
  kernel_rfl


noncomputable def f40 (S : Seam (Value × Heap)) (C : CallF) (n : Nat) (x0 : Value) (x1 : Value) (H : Heap) : Option (Value × Heap) :=
 S.b (newV (Value.cells x0).toList H) fun x2_1 H2 =>
 S.b (newV (Value.cells x1).toList H2) fun x3_3 H4 =>
 S.b (up (fAddr 0 x2_1) H4) fun x6_5 H6 =>
 S.b (ldC x6_5 H6) fun x7_7 H8 =>
 S.b (up (fAddr 0 x3_3) H8) fun x8_9 H10 =>
 S.b (ldC x8_9 H10) fun x9_11 H12 =>
 S.b (up (binB Try.prog .neq 3 x7_7 x9_11) H12) fun x10_13 H14 =>
 S.b (gd (wd x10_13 false) (up (fAddr 1 x2_1) H14) H14) fun x12_15 H16 =>
 S.b (gd (wd x10_13 false) (ldC x12_15 H16) H16) fun x13_17 H18 =>
 S.b (gd (wd x10_13 false) (up (lenS x13_17) H18) H18) fun x14_19 H20 =>
 S.b (gd (wd x10_13 false) (up (fAddr 1 x3_3) H20) H20) fun x15_21 H22 =>
 S.b (gd (wd x10_13 false) (ldC x15_21 H22) H22) fun x16_23 H24 =>
 S.b (gd (wd x10_13 false) (up (lenS x16_23) H24) H24) fun x17_25 H26 =>
 S.b (gd (wd x10_13 false) (up (binB Try.prog .neq 3 x14_19 x17_25) H26) H26) fun x18_27 H28 =>
 S.b (pickV x10_13 (.bool true) x18_27 H28) fun x19_29 H30 =>
 S.i x19_29
 (some ((.bool false), H30))
 (f40_L0 S C n n x2_1 x3_3 (.int .i64 0) H30)

noncomputable def f40G (S : Seam (Value × Heap)) (C : CallF) (n : Nat) (P0 : Env → Heap → Option (Value × Heap)) (x0 : Value) (x1 : Value) (H : Heap) : Option (Value × Heap) :=
 S.b (newV (Value.cells x0).toList H) fun x2_63 H64 =>
 S.b (newV (Value.cells x1).toList H64) fun x3_65 H66 =>
 S.b (up (fAddr 0 x2_63) H66) fun x6_67 H68 =>
 S.b (ldC x6_67 H68) fun x7_69 H70 =>
 S.b (up (fAddr 0 x3_65) H70) fun x8_71 H72 =>
 S.b (ldC x8_71 H72) fun x9_73 H74 =>
 S.b (up (binB Try.prog .neq 3 x7_69 x9_73) H74) fun x10_75 H76 =>
 S.b (gd (wd x10_75 false) (up (fAddr 1 x2_63) H76) H76) fun x12_77 H78 =>
 S.b (gd (wd x10_75 false) (ldC x12_77 H78) H78) fun x13_79 H80 =>
 S.b (gd (wd x10_75 false) (up (lenS x13_79) H80) H80) fun x14_81 H82 =>
 S.b (gd (wd x10_75 false) (up (fAddr 1 x3_65) H82) H82) fun x15_83 H84 =>
 S.b (gd (wd x10_75 false) (ldC x15_83 H84) H84) fun x16_85 H86 =>
 S.b (gd (wd x10_75 false) (up (lenS x16_85) H86) H86) fun x17_87 H88 =>
 S.b (gd (wd x10_75 false) (up (binB Try.prog .neq 3 x14_81 x17_87) H88) H88) fun x18_89 H90 =>
 S.b (pickV x10_75 (.bool true) x18_89 H90) fun x19_91 H92 =>
 S.i x19_91
 (some ((.bool false), H92))
 (P0 (putE 38 (putE 38 (putE 38 (putE 38 (putE 38 (putE 38 (putE 38 (putE 38 (putE 38 (putE 38 (putE 38 (putE 38 (putE 38 (putE 38 (putE 38 (putE 38 (putE 38 (putE 38 (env0 [x0, x1]) (some 2) x2_63) (some 3) x3_65) (some 4) (.bool false)) (some 6) x6_67) (some 7) x7_69) (some 8) x8_71) (some 9) x9_73) (some 10) x10_75) (some 11) x10_75) (some 12) x12_77) (some 13) x13_79) (some 14) x14_81) (some 15) x15_83) (some 16) x16_85) (some 17) x17_87) (some 18) x18_89) (some 19) x19_91) (some 5) (.int .i64 0)) H92)

theorem f40_main (S : Seam (Value × Heap)) (C : CallF) (n : Nat) (x0 : Value) (x1 : Value) (H : Heap) : acodeK S Try.prog C n 38 f40_c (env0 [x0, x1]) H (fin Try.prog Try.f40) = f40 S C n x0 x1 H := by
  have h1 : acodeK S Try.prog C n 38 f40_c (env0 [x0, x1]) H (fin Try.prog Try.f40) = f40G S C n (fun env H => aloopK (acodeK S Try.prog C n 38 (cAt f40_c [1, 1, 0, 1, 0, 0])) n env H (kAt S Try.prog C n 38 f40_c [1, 1, 0, 1, 0] (fin Try.prog Try.f40))) x0 x1 H := by kernel_rfl
  have e0 : (fun env H => aloopK (acodeK S Try.prog C n 38 (cAt f40_c [1, 1, 0, 1, 0, 0])) n env H (kAt S Try.prog C n 38 f40_c [1, 1, 0, 1, 0] (fin Try.prog Try.f40))) = (fun env H => f40_L0 S C n n (env 2) (env 3) (env 5) H) := by funext env H; exact f40_L0_eq S C n n env H
  rw [e0] at h1
  exact h1.trans (by kernel_rfl)


theorem f40_eq {gl : Bool} {E : Ext} (hE : E 40 = none) (n : Nat) (x0 : Value) (x1 : Value) (H : Heap) : acall Try.prog gl E (n + 1) 40 [x0, x1] H = f40 real (acall Try.prog gl E n) n x0 x1 H :=
  (acall_eq (N := 38) Try.func40 (by kernel_rfl) (by kernel_rfl) hE (okgl f40_c (by kernel_rfl)) (by kernel_rfl)).trans (f40_main real _ n x0 x1 H)

/-! incunable/incunableref17.Copy -/
noncomputable def f20_c : Code := (Try.f20.body).getD .skip

noncomputable def f20_L0 (S : Seam (Value × Heap)) (C : CallF) (n : Nat) : Nat → Value → Value → Value → Value → Heap → Option (Value × Heap)
 | 0, _, _, _, _, _ => none
 | m + 1, x1_59, x2_60, x3_61, x4_62, H63 =>
   S.b (up (fAddr 4 x1_59) H63) fun x31_64 H65 =>
   S.b (ldC x31_64 H65) fun x32_66 H67 =>
   S.b (up (lenS x32_66) H67) fun x33_68 H69 =>
   S.b (up (binB Try.prog .lss 3 x4_62 x33_68) H69) fun x34_70 H71 =>
   S.i x34_70
   (S.b (up (fAddr 4 x1_59) H71) fun x37_72 H73 =>
    S.c true (S.b (ldC x37_72 H73) fun x38_74 H75 =>
    S.b (up (iAddrS 4 x38_74 x4_62) H75) fun x40_76 H77 =>
    S.b (up (fAddr 0 x40_76) H77) fun x41_78 H79 =>
    S.c true (S.b (ldC x41_78 H79) fun x42_80 H81 =>
    S.b (up (fAddr 4 x1_59) H81) fun x43_82 H83 =>
    S.c true (S.b (ldC x43_82 H83) fun x44_84 H85 =>
    S.b (up (iAddrS 4 x44_84 x4_62) H85) fun x46_86 H87 =>
    S.b (up (fAddr 2 x46_86) H87) fun x47_88 H89 =>
    S.c true (S.b (ldA 2 x47_88 H89) fun x48_90 H91 =>
    S.b (bld [(.int .i64 0), (.slice none 0 0), (.int .i64 0), (.int .i64 0)] [(0, 1, x42_80), (2, 2, x48_90)] H91) fun x49_92 H93 =>
    S.b (newV [(.int .i64 0), (.slice none 0 0), (.int .i64 0), (.int .i64 0)] H93) fun x5_94 H95 =>
    S.b (stV 4 x5_94 x49_92 H95) fun _ H96 =>
    S.c true (S.b (up (fAddr 1 x5_94) H96) fun x50_97 H98 =>
     S.c true (S.b (ldC x50_97 H98) fun x51_99 H100 =>
     S.b (up (fAddr 4 x1_59) H100) fun x52_101 H102 =>
     S.c true (S.b (ldC x52_101 H102) fun x53_103 H104 =>
     S.b (up (iAddrS 4 x53_103 x4_62) H104) fun x55_105 H106 =>
     S.b (up (fAddr 1 x55_105) H106) fun x56_107 H108 =>
     S.c true (S.b (ldC x56_107 H108) fun x57_109 H110 =>
     S.b (app 1 8 x51_99 x57_109 H110) fun x58_111 H112 =>
     S.c true (S.b (up (fAddr 1 x5_94) H112) fun x59_113 H114 =>
      S.b (stV 1 x59_113 x58_111 H114) fun _ H115 =>
      S.c true (S.b (up (fAddr 4 x3_61) H115) fun x60_116 H117 =>
       S.b (ldC x60_116 H117) fun x61_118 H119 =>
       S.b (ldA 4 x5_94 H119) fun x62_120 H121 =>
       S.b (bldS 4 1 [(.int .i64 0), (.slice none 0 0), (.int .i64 0), (.int .i64 0)] [(0, 4, x62_120)] H121) fun x63_122 H123 =>
       S.b (app 4 48 x61_118 x63_122 H123) fun x64_124 H125 =>
       S.b (up (fAddr 4 x3_61) H125) fun x65_126 H127 =>
       S.b (stV 1 x65_126 x64_124 H127) fun _ H128 =>
       S.b (up (binB Try.prog .add 3 x4_62 (.int .i64 1)) H128) fun x36_129 H130 =>
       f20_L0 S C n m x1_59 x2_60 x3_61 x36_129 H130)))))))))))
   (S.b (ldA 5 x3_61 H71) fun x66_131 H132 =>
    S.b (stV 5 x2_60 x66_131 H132) fun _ H133 =>
    (resM [(ldA 5 x2_60 H133).map (·.1)]).map fun l => (one l, H133))

theorem f20_L0_eq (S : Seam (Value × Heap)) (C : CallF) (n : Nat) : ∀ (m : Nat) (env : Env) (H : Heap), aloopK (acodeK S Try.prog C n 67 (cAt f20_c [1, 1, 1, 1, 1, 1, 0, 1, 0, 0])) m env H (kAt S Try.prog C n 67 f20_c [1, 1, 1, 1, 1, 1, 0, 1, 0] (fin Try.prog Try.f20)) = f20_L0 S C n m (env 1) (env 2) (env 3) (env 4) H := by
  intro m env H
  refine aloopK_eq (L := fun m env H => f20_L0 S C n m (env 1) (env 2) (env 3) (env 4) H) (fun env H => rfl) (fun m env H => ?_) m env H
  kernel_rfl


noncomputable def f20 (S : Seam (Value × Heap)) (C : CallF) (n : Nat) (x0 : Value) (H : Heap) : Option (Value × Heap) :=
 S.b (newV (Value.cells x0).toList H) fun x1_1 H2 =>
 S.b (newV [(.slice none 0 0), (.slice none 0 0), (.slice none 0 0), (.slice none 0 0), (.slice none 0 0)] H2) fun x2_3 H4 =>
 S.b (newV [(.slice none 0 0), (.slice none 0 0), (.slice none 0 0), (.slice none 0 0), (.slice none 0 0)] H4) fun x3_5 H6 =>
 S.b (up (fAddr 0 x3_5) H6) fun x6_7 H8 =>
 S.b (ldC x6_7 H8) fun x7_9 H10 =>
 S.b (up (fAddr 0 x1_1) H10) fun x8_11 H12 =>
 S.b (ldC x8_11 H12) fun x9_13 H14 =>
 S.b (app 1 16 x7_9 x9_13 H14) fun x10_15 H16 =>
 S.b (up (fAddr 0 x3_5) H16) fun x11_17 H18 =>
 S.b (stV 1 x11_17 x10_15 H18) fun _ H19 =>
 S.b (up (fAddr 1 x3_5) H19) fun x12_20 H21 =>
 S.b (ldC x12_20 H21) fun x13_22 H23 =>
 S.b (up (fAddr 1 x1_1) H23) fun x14_24 H25 =>
 S.b (ldC x14_24 H25) fun x15_26 H27 =>
 S.b (app 2 16 x13_22 x15_26 H27) fun x16_28 H29 =>
 S.b (up (fAddr 1 x3_5) H29) fun x17_30 H31 =>
 S.b (stV 1 x17_30 x16_28 H31) fun _ H32 =>
 S.b (up (fAddr 2 x3_5) H32) fun x18_33 H34 =>
 S.b (ldC x18_33 H34) fun x19_35 H36 =>
 S.b (up (fAddr 2 x1_1) H36) fun x20_37 H38 =>
 S.b (ldC x20_37 H38) fun x21_39 H40 =>
 S.b (app 2 24 x19_35 x21_39 H40) fun x22_41 H42 =>
 S.b (up (fAddr 2 x3_5) H42) fun x23_43 H44 =>
 S.b (stV 1 x23_43 x22_41 H44) fun _ H45 =>
 S.b (up (fAddr 3 x3_5) H45) fun x24_46 H47 =>
 S.b (ldC x24_46 H47) fun x25_48 H49 =>
 S.b (up (fAddr 3 x1_1) H49) fun x26_50 H51 =>
 S.b (ldC x26_50 H51) fun x27_52 H53 =>
 S.b (app 1 16 x25_48 x27_52 H53) fun x28_54 H55 =>
 S.b (up (fAddr 3 x3_5) H55) fun x29_56 H57 =>
 S.b (stV 1 x29_56 x28_54 H57) fun _ H58 =>
 f20_L0 S C n n x1_1 x2_3 x3_5 (.int .i64 0) H58

noncomputable def f20G (S : Seam (Value × Heap)) (C : CallF) (n : Nat) (P0 : Env → Heap → Option (Value × Heap)) (x0 : Value) (H : Heap) : Option (Value × Heap) :=
 S.b (newV (Value.cells x0).toList H) fun x1_134 H135 =>
 S.b (newV [(.slice none 0 0), (.slice none 0 0), (.slice none 0 0), (.slice none 0 0), (.slice none 0 0)] H135) fun x2_136 H137 =>
 S.b (newV [(.slice none 0 0), (.slice none 0 0), (.slice none 0 0), (.slice none 0 0), (.slice none 0 0)] H137) fun x3_138 H139 =>
 S.b (up (fAddr 0 x3_138) H139) fun x6_140 H141 =>
 S.b (ldC x6_140 H141) fun x7_142 H143 =>
 S.b (up (fAddr 0 x1_134) H143) fun x8_144 H145 =>
 S.b (ldC x8_144 H145) fun x9_146 H147 =>
 S.b (app 1 16 x7_142 x9_146 H147) fun x10_148 H149 =>
 S.b (up (fAddr 0 x3_138) H149) fun x11_150 H151 =>
 S.b (stV 1 x11_150 x10_148 H151) fun u152 H153 =>
 S.b (up (fAddr 1 x3_138) H153) fun x12_154 H155 =>
 S.b (ldC x12_154 H155) fun x13_156 H157 =>
 S.b (up (fAddr 1 x1_134) H157) fun x14_158 H159 =>
 S.b (ldC x14_158 H159) fun x15_160 H161 =>
 S.b (app 2 16 x13_156 x15_160 H161) fun x16_162 H163 =>
 S.b (up (fAddr 1 x3_138) H163) fun x17_164 H165 =>
 S.b (stV 1 x17_164 x16_162 H165) fun u166 H167 =>
 S.b (up (fAddr 2 x3_138) H167) fun x18_168 H169 =>
 S.b (ldC x18_168 H169) fun x19_170 H171 =>
 S.b (up (fAddr 2 x1_134) H171) fun x20_172 H173 =>
 S.b (ldC x20_172 H173) fun x21_174 H175 =>
 S.b (app 2 24 x19_170 x21_174 H175) fun x22_176 H177 =>
 S.b (up (fAddr 2 x3_138) H177) fun x23_178 H179 =>
 S.b (stV 1 x23_178 x22_176 H179) fun u180 H181 =>
 S.b (up (fAddr 3 x3_138) H181) fun x24_182 H183 =>
 S.b (ldC x24_182 H183) fun x25_184 H185 =>
 S.b (up (fAddr 3 x1_134) H185) fun x26_186 H187 =>
 S.b (ldC x26_186 H187) fun x27_188 H189 =>
 S.b (app 1 16 x25_184 x27_188 H189) fun x28_190 H191 =>
 S.b (up (fAddr 3 x3_138) H191) fun x29_192 H193 =>
 S.b (stV 1 x29_192 x28_190 H193) fun u194 H195 =>
 P0 (putE 67 (putE 67 (putE 67 (putE 67 (putE 67 (putE 67 (putE 67 (putE 67 (putE 67 (putE 67 (putE 67 (putE 67 (putE 67 (putE 67 (putE 67 (putE 67 (putE 67 (putE 67 (putE 67 (putE 67 (putE 67 (putE 67 (putE 67 (putE 67 (putE 67 (putE 67 (putE 67 (putE 67 (putE 67 (putE 67 (putE 67 (putE 67 (env0 [x0]) (some 1) x1_134) (some 2) x2_136) (some 3) x3_138) (some 6) x6_140) (some 7) x7_142) (some 8) x8_144) (some 9) x9_146) (some 10) x10_148) (some 11) x11_150) none u152) (some 12) x12_154) (some 13) x13_156) (some 14) x14_158) (some 15) x15_160) (some 16) x16_162) (some 17) x17_164) none u166) (some 18) x18_168) (some 19) x19_170) (some 20) x20_172) (some 21) x21_174) (some 22) x22_176) (some 23) x23_178) none u180) (some 24) x24_182) (some 25) x25_184) (some 26) x26_186) (some 27) x27_188) (some 28) x28_190) (some 29) x29_192) none u194) (some 4) (.int .i64 0)) H195

theorem f20_main (S : Seam (Value × Heap)) (C : CallF) (n : Nat) (x0 : Value) (H : Heap) : acodeK S Try.prog C n 67 f20_c (env0 [x0]) H (fin Try.prog Try.f20) = f20 S C n x0 H := by
  have h1 : acodeK S Try.prog C n 67 f20_c (env0 [x0]) H (fin Try.prog Try.f20) = f20G S C n (fun env H => aloopK (acodeK S Try.prog C n 67 (cAt f20_c [1, 1, 1, 1, 1, 1, 0, 1, 0, 0])) n env H (kAt S Try.prog C n 67 f20_c [1, 1, 1, 1, 1, 1, 0, 1, 0] (fin Try.prog Try.f20))) x0 H := by kernel_rfl
  have e0 : (fun env H => aloopK (acodeK S Try.prog C n 67 (cAt f20_c [1, 1, 1, 1, 1, 1, 0, 1, 0, 0])) n env H (kAt S Try.prog C n 67 f20_c [1, 1, 1, 1, 1, 1, 0, 1, 0] (fin Try.prog Try.f20))) = (fun env H => f20_L0 S C n n (env 1) (env 2) (env 3) (env 4) H) := by funext env H; exact f20_L0_eq S C n n env H
  rw [e0] at h1
  exact h1.trans (by kernel_rfl)


theorem f20_eq {gl : Bool} {E : Ext} (hE : E 20 = none) (n : Nat) (x0 : Value) (H : Heap) : acall Try.prog gl E (n + 1) 20 [x0] H = f20 real (acall Try.prog gl E n) n x0 H :=
  (acall_eq (N := 67) Try.func20 (by kernel_rfl) (by kernel_rfl) hE (okgl f20_c (by kernel_rfl)) (by kernel_rfl)).trans (f20_main real _ n x0 H)

/-! incunable/keys.Parser -/
noncomputable def f21_c : Code := (Try.f21.body).getD .skip

noncomputable def f21 (S : Seam (Value × Heap)) (C : CallF) (n : Nat) (x0 : Value) (H : Heap) : Option (Value × Heap) :=
 S.b (newV (Value.cells x0).toList H) fun x1_1 H2 =>
 S.b (C 30 [(.int .i64 3)] H2) fun x4_3 H4 =>
 S.c true (S.c ((sameBlk H2 H4 (blkOf x1_1)) && true) (S.b (ldA 5 x1_1 H4) fun x5_5 H6 =>
  S.b (C 37 [x4_3, x5_5] H6) fun x6_7 H8 =>
  S.c true (S.b (C 32 [x6_7] H8) fun x7_9 H10 =>
   S.c true (S.b (extr 0 x7_9 H10) fun x8_11 H12 =>
    S.b (extr 1 x7_9 H12) fun x9_13 H14 =>
    some (.tuple #[x8_11, x9_13], H14)))))

theorem f21_main (S : Seam (Value × Heap)) (C : CallF) (n : Nat) (x0 : Value) (H : Heap) : acodeK S Try.prog C n 10 f21_c (env0 [x0]) H (fin Try.prog Try.f21) = f21 S C n x0 H := by
  kernel_rfl


theorem f21_eq {gl : Bool} {E : Ext} (hE : E 21 = none) (n : Nat) (x0 : Value) (H : Heap) : acall Try.prog gl E (n + 1) 21 [x0] H = f21 real (acall Try.prog gl E n) n x0 H :=
  (acall_eq (N := 10) Try.func21 (by kernel_rfl) (by kernel_rfl) hE (okgl f21_c (by kernel_rfl)) (by kernel_rfl)).trans (f21_main real _ n x0 H)

/-! incunable/incunableref25.Parser -/
noncomputable def f22_c : Code := (Try.f22.body).getD .skip

noncomputable def f22 (S : Seam (Value × Heap)) (C : CallF) (n : Nat) (x0 : Value) (H : Heap) : Option (Value × Heap) :=
 S.b (newV (Value.cells x0).toList H) fun x1_1 H2 =>
 S.b (bld [(.slice none 0 0), (.bool false)] [] H2) fun x5_3 H4 =>
 S.b (newV (Value.cells x5_3).toList H4) fun x6_5 H6 =>
 S.b (C 33 [x6_5, (.int .i64 3)] H6) fun x8_7 H8 =>
 S.b (ldA 5 x1_1 H8) fun x10_9 H10 =>
 S.b (C 38 [x6_5, x10_9] H10) fun x11_11 H12 =>
 S.b (C 35 [x6_5] H12) fun x13_13 H14 =>
 S.b (extr 0 x13_13 H14) fun x14_15 H16 =>
 S.b (extr 1 x13_13 H16) fun x15_17 H18 =>
 some (.tuple #[x14_15, x15_17], H18)

theorem f22_main (S : Seam (Value × Heap)) (C : CallF) (n : Nat) (x0 : Value) (H : Heap) : acodeK S Try.prog C n 16 f22_c (env0 [x0]) H (fin Try.prog Try.f22) = f22 S C n x0 H := by
  kernel_rfl


theorem f22_eq {gl : Bool} {E : Ext} (hE : E 22 = none) (n : Nat) (x0 : Value) (H : Heap) : acall Try.prog gl E (n + 1) 22 [x0] H = f22 real (acall Try.prog gl E n) n x0 H :=
  (acall_eq (N := 16) Try.func22 (by kernel_rfl) (by kernel_rfl) hE (okgl f22_c (by kernel_rfl)) (by kernel_rfl)).trans (f22_main real _ n x0 H)

/-! incunable/keys.Tables -/
noncomputable def f23_c : Code := (Try.f23.body).getD .skip

noncomputable def f23_L0 (S : Seam (Value × Heap)) (C : CallF) (n : Nat) : Nat → Value → Value → Value → Value → Value → Heap → Option (Value × Heap)
 | 0, _, _, _, _, _, _ => none
 | m + 1, x1_21, x4_22, x14_23, x15_24, x16_25, H26 =>
   S.b (up (binB Try.prog .lss 3 x16_25 x15_24) H26) fun x17_27 H28 =>
   S.i x17_27
   (S.b (up (iAddrS 2 x14_23 x16_25) H28) fun x18_29 H30 =>
    S.b (ldA 2 x18_29 H30) fun x19_31 H32 =>
    S.b (newV [(.int .i64 0), (.string ⟨#[]⟩)] H32) fun x6_33 H34 =>
    S.b (stV 2 x6_33 x19_31 H34) fun _ H35 =>
    S.b (up (fAddr 0 x6_33) H35) fun x21_36 H37 =>
    S.c true (S.b (ldC x21_36 H37) fun x22_38 H39 =>
    S.b (bldS 1 1 [(.int .i64 0)] [(0, 1, x22_38)] H39) fun x23_40 H41 =>
    S.b (C 36 [x4_22, x23_40] H41) fun x24_42 H43 =>
    S.c true (S.b (up (fAddr 1 x6_33) H43) fun x25_44 H45 =>
     S.c ((sameBlk H41 H43 (blkOf x25_44)) && true) (S.b (ldC x25_44 H45) fun x26_46 H47 =>
     S.b (C 31 [x24_42, x26_46] H47) fun x27_48 H49 =>
     S.c true (S.b (up (binB Try.prog .add 3 x16_25 (.int .i64 1)) H49) fun x28_50 H51 =>
      f23_L0 S C n m x1_21 x4_22 x14_23 x15_24 x28_50 H51)))))
   (S.b (ldA 5 x1_21 H28) fun x30_52 H53 =>
    S.b (C 37 [x4_22, x30_52] H53) fun x31_54 H55 =>
    S.b (C 32 [x31_54] H55) fun x32_56 H57 =>
    S.b (extr 0 x32_56 H57) fun x33_58 H59 =>
    S.b (extr 1 x32_56 H59) fun x34_60 H61 =>
    some (.tuple #[x33_58, x34_60], H61))

theorem f23_L0_eq (S : Seam (Value × Heap)) (C : CallF) (n : Nat) : ∀ (m : Nat) (env : Env) (H : Heap), aloopK (acodeK S Try.prog C n 35 (cAt f23_c [1, 1, 0, 1, 0, 0])) m env H (kAt S Try.prog C n 35 f23_c [1, 1, 0, 1, 0] (fin Try.prog Try.f23)) = f23_L0 S C n m (env 1) (env 4) (env 14) (env 15) (env 16) H := by
  intro m env H
  refine aloopK_eq (L := fun m env H => f23_L0 S C n m (env 1) (env 4) (env 14) (env 15) (env 16) H) (fun env H => rfl) (fun m env H => ?_) m env H
  kernel_rfl


noncomputable def f23 (S : Seam (Value × Heap)) (C : CallF) (n : Nat) (x0 : Value) (H : Heap) : Option (Value × Heap) :=
 S.b (newV (Value.cells x0).toList H) fun x1_1 H2 =>
 S.b (C 30 [(.int .i64 4)] H2) fun x7_3 H4 =>
 S.c true (S.b (up (fAddr 2 x1_1) H4) fun x8_5 H6 =>
  S.c ((sameBlk H2 H4 (blkOf x8_5)) && true) (S.b (ldC x8_5 H6) fun x9_7 H8 =>
  S.b (up (lenS x9_7) H8) fun x10_9 H10 =>
  S.b (bldS 1 1 [(.int .i64 0)] [(0, 1, x10_9)] H10) fun x11_11 H12 =>
  S.b (C 36 [x7_3, x11_11] H12) fun x12_13 H14 =>
  S.c true (S.b (up (fAddr 2 x1_1) H14) fun x13_15 H16 =>
   S.b (ldC x13_15 H16) fun x14_17 H18 =>
   S.b (up (lenS x14_17) H18) fun x15_19 H20 =>
   f23_L0 S C n n x1_1 x12_13 x14_17 x15_19 (.int .i64 0) H20)))

noncomputable def f23G (S : Seam (Value × Heap)) (C : CallF) (n : Nat) (P0 : Env → Heap → Option (Value × Heap)) (x0 : Value) (H : Heap) : Option (Value × Heap) :=
 S.b (newV (Value.cells x0).toList H) fun x1_62 H63 =>
 S.b (C 30 [(.int .i64 4)] H63) fun x7_64 H65 =>
 S.c true (S.b (up (fAddr 2 x1_62) H65) fun x8_66 H67 =>
  S.c ((sameBlk H63 H65 (blkOf x8_66)) && true) (S.b (ldC x8_66 H67) fun x9_68 H69 =>
  S.b (up (lenS x9_68) H69) fun x10_70 H71 =>
  S.b (bldS 1 1 [(.int .i64 0)] [(0, 1, x10_70)] H71) fun x11_72 H73 =>
  S.b (C 36 [x7_64, x11_72] H73) fun x12_74 H75 =>
  S.c true (S.b (up (fAddr 2 x1_62) H75) fun x13_76 H77 =>
   S.b (ldC x13_76 H77) fun x14_78 H79 =>
   S.b (up (lenS x14_78) H79) fun x15_80 H81 =>
   P0 (putE 35 (putE 35 (putE 35 (putE 35 (putE 35 (putE 35 (putE 35 (putE 35 (putE 35 (putE 35 (putE 35 (putE 35 (putE 35 (putE 35 (env0 [x0]) (some 1) x1_62) (some 2) (.slice none 0 0)) (some 3) (.int .i64 0)) (some 7) x7_64) (some 8) x8_66) (some 9) x9_68) (some 10) x10_70) (some 11) x11_72) (some 12) x12_74) (some 4) x12_74) (some 13) x13_76) (some 14) x14_78) (some 15) x15_80) (some 16) (.int .i64 0)) H81)))

theorem f23_main (S : Seam (Value × Heap)) (C : CallF) (n : Nat) (x0 : Value) (H : Heap) : acodeK S Try.prog C n 35 f23_c (env0 [x0]) H (fin Try.prog Try.f23) = f23 S C n x0 H := by
  have h1 : acodeK S Try.prog C n 35 f23_c (env0 [x0]) H (fin Try.prog Try.f23) = f23G S C n (fun env H => aloopK (acodeK S Try.prog C n 35 (cAt f23_c [1, 1, 0, 1, 0, 0])) n env H (kAt S Try.prog C n 35 f23_c [1, 1, 0, 1, 0] (fin Try.prog Try.f23))) x0 H := by kernel_rfl
  have e0 : (fun env H => aloopK (acodeK S Try.prog C n 35 (cAt f23_c [1, 1, 0, 1, 0, 0])) n env H (kAt S Try.prog C n 35 f23_c [1, 1, 0, 1, 0] (fin Try.prog Try.f23))) = (fun env H => f23_L0 S C n n (env 1) (env 4) (env 14) (env 15) (env 16) H) := by funext env H; exact f23_L0_eq S C n n env H
  rw [e0] at h1
  exact h1.trans (by kernel_rfl)


theorem f23_eq {gl : Bool} {E : Ext} (hE : E 23 = none) (n : Nat) (x0 : Value) (H : Heap) : acall Try.prog gl E (n + 1) 23 [x0] H = f23 real (acall Try.prog gl E n) n x0 H :=
  (acall_eq (N := 35) Try.func23 (by kernel_rfl) (by kernel_rfl) hE (okgl f23_c (by kernel_rfl)) (by kernel_rfl)).trans (f23_main real _ n x0 H)

/-! incunable/incunableref25.Tables -/
noncomputable def f24_c : Code := (Try.f24.body).getD .skip

noncomputable def f24_L0 (S : Seam (Value × Heap)) (C : CallF) (n : Nat) : Nat → Value → Value → Value → Heap → Option (Value × Heap)
 | 0, _, _, _, _ => none
 | m + 1, x1_17, x4_18, x5_19, H20 =>
   S.b (up (fAddr 2 x1_17) H20) fun x16_21 H22 =>
   S.b (ldC x16_21 H22) fun x17_23 H24 =>
   S.b (up (lenS x17_23) H24) fun x18_25 H26 =>
   S.b (up (binB Try.prog .lss 3 x5_19 x18_25) H26) fun x19_27 H28 =>
   S.i x19_27
   (S.b (up (fAddr 2 x1_17) H28) fun x23_29 H30 =>
    S.b (ldC x23_29 H30) fun x24_31 H32 =>
    S.b (up (iAddrS 2 x24_31 x5_19) H32) fun x26_33 H34 =>
    S.b (up (fAddr 0 x26_33) H34) fun x27_35 H36 =>
    S.b (ldC x27_35 H36) fun x28_37 H38 =>
    S.b (C 33 [x4_18, x28_37] H38) fun x29_39 H40 =>
    S.b (up (fAddr 2 x1_17) H40) fun x31_41 H42 =>
    S.b (ldC x31_41 H42) fun x32_43 H44 =>
    S.b (up (iAddrS 2 x32_43 x5_19) H44) fun x34_45 H46 =>
    S.b (up (fAddr 1 x34_45) H46) fun x35_47 H48 =>
    S.b (ldC x35_47 H48) fun x36_49 H50 =>
    S.b (C 34 [x4_18, x36_49] H50) fun x37_51 H52 =>
    S.b (up (binB Try.prog .add 3 x5_19 (.int .i64 1)) H52) fun x21_53 H54 =>
    f24_L0 S C n m x1_17 x4_18 x21_53 H54)
   (S.b (ldA 5 x1_17 H28) fun x39_55 H56 =>
    S.b (C 38 [x4_18, x39_55] H56) fun x40_57 H58 =>
    S.b (C 35 [x4_18] H58) fun x42_59 H60 =>
    S.b (extr 0 x42_59 H60) fun x43_61 H62 =>
    S.b (extr 1 x42_59 H62) fun x44_63 H64 =>
    some (.tuple #[x43_61, x44_63], H64))

theorem f24_L0_eq (S : Seam (Value × Heap)) (C : CallF) (n : Nat) : ∀ (m : Nat) (env : Env) (H : Heap), aloopK (acodeK S Try.prog C n 45 (cAt f24_c [1, 1, 1, 1, 0, 1, 0, 0])) m env H (kAt S Try.prog C n 45 f24_c [1, 1, 1, 1, 0, 1, 0] (fin Try.prog Try.f24)) = f24_L0 S C n m (env 1) (env 4) (env 5) H := by
  intro m env H
  refine aloopK_eq (L := fun m env H => f24_L0 S C n m (env 1) (env 4) (env 5) H) (fun env H => rfl) (fun m env H => ?_) m env H
  kernel_rfl


noncomputable def f24 (S : Seam (Value × Heap)) (C : CallF) (n : Nat) (x0 : Value) (H : Heap) : Option (Value × Heap) :=
 S.b (newV (Value.cells x0).toList H) fun x1_1 H2 =>
 S.b (bld [(.slice none 0 0), (.bool false)] [] H2) fun x6_3 H4 =>
 S.b (newV (Value.cells x6_3).toList H4) fun x7_5 H6 =>
 S.b (C 33 [x7_5, (.int .i64 4)] H6) fun x9_7 H8 =>
 S.b (up (fAddr 2 x1_1) H8) fun x11_9 H10 =>
 S.b (ldC x11_9 H10) fun x12_11 H12 =>
 S.b (up (lenS x12_11) H12) fun x13_13 H14 =>
 S.b (C 33 [x7_5, x13_13] H14) fun x14_15 H16 =>
 f24_L0 S C n n x1_1 x7_5 (.int .i64 0) H16

noncomputable def f24G (S : Seam (Value × Heap)) (C : CallF) (n : Nat) (P0 : Env → Heap → Option (Value × Heap)) (x0 : Value) (H : Heap) : Option (Value × Heap) :=
 S.b (newV (Value.cells x0).toList H) fun x1_65 H66 =>
 S.b (bld [(.slice none 0 0), (.bool false)] [] H66) fun x6_67 H68 =>
 S.b (newV (Value.cells x6_67).toList H68) fun x7_69 H70 =>
 S.b (C 33 [x7_69, (.int .i64 4)] H70) fun x9_71 H72 =>
 S.b (up (fAddr 2 x1_65) H72) fun x11_73 H74 =>
 S.b (ldC x11_73 H74) fun x12_75 H76 =>
 S.b (up (lenS x12_75) H76) fun x13_77 H78 =>
 S.b (C 33 [x7_69, x13_77] H78) fun x14_79 H80 =>
 P0 (putE 45 (putE 45 (putE 45 (putE 45 (putE 45 (putE 45 (putE 45 (putE 45 (putE 45 (putE 45 (putE 45 (putE 45 (putE 45 (putE 45 (env0 [x0]) (some 1) x1_65) (some 2) (.slice none 0 0)) (some 3) (.int .i64 0)) (some 6) x6_67) (some 7) x7_69) (some 4) x7_69) (some 8) x7_69) (some 9) x9_71) (some 10) x7_69) (some 11) x11_73) (some 12) x12_75) (some 13) x13_77) (some 14) x14_79) (some 5) (.int .i64 0)) H80

theorem f24_main (S : Seam (Value × Heap)) (C : CallF) (n : Nat) (x0 : Value) (H : Heap) : acodeK S Try.prog C n 45 f24_c (env0 [x0]) H (fin Try.prog Try.f24) = f24 S C n x0 H := by
  have h1 : acodeK S Try.prog C n 45 f24_c (env0 [x0]) H (fin Try.prog Try.f24) = f24G S C n (fun env H => aloopK (acodeK S Try.prog C n 45 (cAt f24_c [1, 1, 1, 1, 0, 1, 0, 0])) n env H (kAt S Try.prog C n 45 f24_c [1, 1, 1, 1, 0, 1, 0] (fin Try.prog Try.f24))) x0 H := by kernel_rfl
  have e0 : (fun env H => aloopK (acodeK S Try.prog C n 45 (cAt f24_c [1, 1, 1, 1, 0, 1, 0, 0])) n env H (kAt S Try.prog C n 45 f24_c [1, 1, 1, 1, 0, 1, 0] (fin Try.prog Try.f24))) = (fun env H => f24_L0 S C n n (env 1) (env 4) (env 5) H) := by funext env H; exact f24_L0_eq S C n n env H
  rw [e0] at h1
  exact h1.trans (by kernel_rfl)


theorem f24_eq {gl : Bool} {E : Ext} (hE : E 24 = none) (n : Nat) (x0 : Value) (H : Heap) : acall Try.prog gl E (n + 1) 24 [x0] H = f24 real (acall Try.prog gl E n) n x0 H :=
  (acall_eq (N := 45) Try.func24 (by kernel_rfl) (by kernel_rfl) hE (okgl f24_c (by kernel_rfl)) (by kernel_rfl)).trans (f24_main real _ n x0 H)

/-! incunable/incunableref17.Same -/
noncomputable def f25_c : Code := (Try.f25.body).getD .skip

noncomputable def f25_L2 (S : Seam (Value × Heap)) (C : CallF) (n : Nat) : Nat → Value → Value → Value → Heap → Option (Value × Heap)
 | 0, _, _, _, _ => none
 | m + 1, x2_143, x3_144, x7_145, H146 =>
   S.b (up (fAddr 4 x2_143) H146) fun x86_147 H148 =>
   S.b (ldC x86_147 H148) fun x87_149 H150 =>
   S.b (up (lenS x87_149) H150) fun x88_151 H152 =>
   S.b (up (binB Try.prog .lss 3 x7_145 x88_151) H152) fun x89_153 H154 =>
   S.i x89_153
   (S.b (up (fAddr 4 x2_143) H154) fun x92_155 H156 =>
    S.c true (S.b (ldC x92_155 H156) fun x93_157 H158 =>
    S.b (up (iAddrS 4 x93_157 x7_145) H158) fun x95_159 H160 =>
    S.c true (S.b (ldA 4 x95_159 H160) fun x96_161 H162 =>
    S.b (up (fAddr 4 x3_144) H162) fun x97_163 H164 =>
    S.c true (S.b (ldC x97_163 H164) fun x98_165 H166 =>
    S.b (up (iAddrS 4 x98_165 x7_145) H166) fun x100_167 H168 =>
    S.c true (S.b (ldA 4 x100_167 H168) fun x101_169 H170 =>
    S.b (C 40 [x96_161, x101_169] H170) fun x102_171 H172 =>
    S.c true (S.b (up (unB .not x102_171) H172) fun x103_173 H174 =>
     S.b (gd (wd x103_173 false) (up (fAddr 4 x2_143) H174) H174) fun x105_175 H176 =>
     S.c (!(wd x103_173 false) || true) (S.b (gd (wd x103_173 false) (ldC x105_175 H176) H176) fun x106_177 H178 =>
     S.b (gd (wd x103_173 false) (some (x7_145, H178)) H178) fun x107_179 H180 =>
     S.b (gd (wd x103_173 false) (up (iAddrS 4 x106_177 x107_179) H180) H180) fun x108_181 H182 =>
     S.b (gd (wd x103_173 false) (up (fAddr 2 x108_181) H182) H182) fun x109_183 H184 =>
     S.c (!(wd x103_173 false) || true) (S.b (gd (wd x103_173 false) (ldA 2 x109_183 H184) H184) fun x110_185 H186 =>
     S.b (gd (wd x103_173 false) (up (fAddr 4 x3_144) H186) H186) fun x111_187 H188 =>
     S.c (!(wd x103_173 false) || true) (S.b (gd (wd x103_173 false) (ldC x111_187 H188) H188) fun x112_189 H190 =>
     S.b (gd (wd x103_173 false) (some (x7_145, H190)) H190) fun x113_191 H192 =>
     S.b (gd (wd x103_173 false) (up (iAddrS 4 x112_189 x113_191) H192) H192) fun x114_193 H194 =>
     S.b (gd (wd x103_173 false) (up (fAddr 2 x114_193) H194) H194) fun x115_195 H196 =>
     S.c (!(wd x103_173 false) || true) (S.b (gd (wd x103_173 false) (ldA 2 x115_195 H196) H196) fun x116_197 H198 =>
     S.b (gd (wd x103_173 false) (up (binB Try.prog .neq 53 x110_185 x116_197) H198) H198) fun x117_199 H200 =>
     S.b (pickV x103_173 (.bool true) x117_199 H200) fun x118_201 H202 =>
     S.i x118_201
     (some ((.bool false), H202))
     (S.b (up (binB Try.prog .add 3 x7_145 (.int .i64 1)) H202) fun x91_203 H204 =>
      f25_L2 S C n m x2_143 x3_144 x91_203 H204)))))))))))
   (some ((.bool true), H154))

theorem f25_L2_eq (S : Seam (Value × Heap)) (C : CallF) (n : Nat) : ∀ (m : Nat) (env : Env) (H : Heap), aloopK (acodeK S Try.prog C n 119 (cAt f25_c [1, 1, 1, 1, 0, 1, 0, 0])) m env H (kAt S Try.prog C n 119 f25_c [1, 1, 1, 1, 0, 1, 0] (fin Try.prog Try.f25)) = f25_L2 S C n m (env 2) (env 3) (env 7) H := by
  intro m env H
  refine aloopK_eq (L := fun m env H => f25_L2 S C n m (env 2) (env 3) (env 7) H) (fun env H => rfl) (fun m env H => ?_) m env H
  kernel_rfl


noncomputable def f25_L1 (S : Seam (Value × Heap)) (C : CallF) (n : Nat) : Nat → Value → Value → Value → Heap → Option (Value × Heap)
 | 0, _, _, _, _ => none
 | m + 1, x2_111, x3_112, x6_113, H114 =>
   S.b (up (fAddr 2 x2_111) H114) fun x68_115 H116 =>
   S.b (ldC x68_115 H116) fun x69_117 H118 =>
   S.b (up (lenS x69_117) H118) fun x70_119 H120 =>
   S.b (up (binB Try.prog .lss 3 x6_113 x70_119) H120) fun x71_121 H122 =>
   S.i x71_121
   (S.b (up (fAddr 2 x2_111) H122) fun x74_123 H124 =>
    S.c true (S.b (ldC x74_123 H124) fun x75_125 H126 =>
    S.b (up (iAddrS 2 x75_125 x6_113) H126) fun x77_127 H128 =>
    S.c true (S.b (ldA 2 x77_127 H128) fun x78_129 H130 =>
    S.b (up (fAddr 2 x3_112) H130) fun x79_131 H132 =>
    S.c true (S.b (ldC x79_131 H132) fun x80_133 H134 =>
    S.b (up (iAddrS 2 x80_133 x6_113) H134) fun x82_135 H136 =>
    S.c true (S.b (ldA 2 x82_135 H136) fun x83_137 H138 =>
    S.b (up (binB Try.prog .neq 51 x78_129 x83_137) H138) fun x84_139 H140 =>
    S.i x84_139
    (some ((.bool false), H140))
    (S.b (up (binB Try.prog .add 3 x6_113 (.int .i64 1)) H140) fun x73_141 H142 =>
     f25_L1 S C n m x2_111 x3_112 x73_141 H142))))))
   (f25_L2 S C n n x2_111 x3_112 (.int .i64 0) H122)

noncomputable def f25_L1G (S : Seam (Value × Heap)) (C : CallF) (n : Nat) (R1 : Value→Value→Value→Heap→Option (Value × Heap)) (P2 : Env → Heap → Option (Value × Heap)) (env : Env) (H : Heap) : Option (Value × Heap) :=
 S.b (up (fAddr 2 (env 2)) H) fun x68_205 H206 =>
 S.b (ldC x68_205 H206) fun x69_207 H208 =>
 S.b (up (lenS x69_207) H208) fun x70_209 H210 =>
 S.b (up (binB Try.prog .lss 3 (env 6) x70_209) H210) fun x71_211 H212 =>
 S.i x71_211
 (S.b (up (fAddr 2 (env 2)) H212) fun x74_213 H214 =>
  S.c true (S.b (ldC x74_213 H214) fun x75_215 H216 =>
  S.b (up (iAddrS 2 x75_215 (env 6)) H216) fun x77_217 H218 =>
  S.c true (S.b (ldA 2 x77_217 H218) fun x78_219 H220 =>
  S.b (up (fAddr 2 (env 3)) H220) fun x79_221 H222 =>
  S.c true (S.b (ldC x79_221 H222) fun x80_223 H224 =>
  S.b (up (iAddrS 2 x80_223 (env 6)) H224) fun x82_225 H226 =>
  S.c true (S.b (ldA 2 x82_225 H226) fun x83_227 H228 =>
  S.b (up (binB Try.prog .neq 51 x78_219 x83_227) H228) fun x84_229 H230 =>
  S.i x84_229
  (some ((.bool false), H230))
  (S.b (up (binB Try.prog .add 3 (env 6) (.int .i64 1)) H230) fun x73_231 H232 =>
   R1 (env 2) (env 3) x73_231 H232))))))
 (P2 (putE 119 (putE 119 (putE 119 (putE 119 (putE 119 (putE 119 env (some 67) (env 6)) (some 68) x68_205) (some 69) x69_207) (some 70) x70_209) (some 71) x71_211) (some 7) (.int .i64 0)) H212)

theorem f25_L1_eq (S : Seam (Value × Heap)) (C : CallF) (n : Nat) : ∀ (m : Nat) (env : Env) (H : Heap), aloopK (acodeK S Try.prog C n 119 (cAt f25_c [1, 1, 1, 0, 1, 0, 0])) m env H (kAt S Try.prog C n 119 f25_c [1, 1, 1, 0, 1, 0] (fin Try.prog Try.f25)) = f25_L1 S C n m (env 2) (env 3) (env 6) H := by
  intro m env H
  refine aloopK_eq (L := fun m env H => f25_L1 S C n m (env 2) (env 3) (env 6) H) (fun env H => rfl) (fun m env H => ?_) m env H
  have h1 : acodeK S Try.prog C n 119 (cAt f25_c [1, 1, 1, 0, 1, 0, 0]) env H (onNormal (fun env' H' => f25_L1 S C n m (env' 2) (env' 3) (env' 6) H') (kAt S Try.prog C n 119 f25_c [1, 1, 1, 0, 1, 0] (fin Try.prog Try.f25))) = f25_L1G S C n (f25_L1 S C n m) (fun env H => aloopK (acodeK S Try.prog C n 119 (cAt f25_c [1, 1, 1, 1, 0, 1, 0, 0])) n env H (kAt S Try.prog C n 119 f25_c [1, 1, 1, 1, 0, 1, 0] (fin Try.prog Try.f25))) env H := by kernel_rfl
  have e0 : (fun env H => aloopK (acodeK S Try.prog C n 119 (cAt f25_c [1, 1, 1, 1, 0, 1, 0, 0])) n env H (kAt S Try.prog C n 119 f25_c [1, 1, 1, 1, 0, 1, 0] (fin Try.prog Try.f25))) = (fun env H => f25_L2 S C n n (env 2) (env 3) (env 7) H) := by funext env H; exact f25_L2_eq S C n n env H
  rw [e0] at h1
  exact h1.trans (by kernel_rfl)


noncomputable def f25_L0 (S : Seam (Value × Heap)) (C : CallF) (n : Nat) : Nat → Value → Value → Value → Heap → Option (Value × Heap)
 | 0, _, _, _, _ => none
 | m + 1, x2_79, x3_80, x5_81, H82 =>
   S.b (up (fAddr 1 x2_79) H82) fun x50_83 H84 =>
   S.b (ldC x50_83 H84) fun x51_85 H86 =>
   S.b (up (lenS x51_85) H86) fun x52_87 H88 =>
   S.b (up (binB Try.prog .lss 3 x5_81 x52_87) H88) fun x53_89 H90 =>
   S.i x53_89
   (S.b (up (fAddr 1 x2_79) H90) fun x56_91 H92 =>
    S.c true (S.b (ldC x56_91 H92) fun x57_93 H94 =>
    S.b (up (iAddrS 2 x57_93 x5_81) H94) fun x59_95 H96 =>
    S.c true (S.b (ldA 2 x59_95 H96) fun x60_97 H98 =>
    S.b (up (fAddr 1 x3_80) H98) fun x61_99 H100 =>
    S.c true (S.b (ldC x61_99 H100) fun x62_101 H102 =>
    S.b (up (iAddrS 2 x62_101 x5_81) H102) fun x64_103 H104 =>
    S.c true (S.b (ldA 2 x64_103 H104) fun x65_105 H106 =>
    S.b (up (binB Try.prog .neq 53 x60_97 x65_105) H106) fun x66_107 H108 =>
    S.i x66_107
    (some ((.bool false), H108))
    (S.b (up (binB Try.prog .add 3 x5_81 (.int .i64 1)) H108) fun x55_109 H110 =>
     f25_L0 S C n m x2_79 x3_80 x55_109 H110))))))
   (f25_L1 S C n n x2_79 x3_80 (.int .i64 0) H90)

noncomputable def f25_L0G (S : Seam (Value × Heap)) (C : CallF) (n : Nat) (R0 : Value→Value→Value→Heap→Option (Value × Heap)) (P1 : Env → Heap → Option (Value × Heap)) (env : Env) (H : Heap) : Option (Value × Heap) :=
 S.b (up (fAddr 1 (env 2)) H) fun x50_233 H234 =>
 S.b (ldC x50_233 H234) fun x51_235 H236 =>
 S.b (up (lenS x51_235) H236) fun x52_237 H238 =>
 S.b (up (binB Try.prog .lss 3 (env 5) x52_237) H238) fun x53_239 H240 =>
 S.i x53_239
 (S.b (up (fAddr 1 (env 2)) H240) fun x56_241 H242 =>
  S.c true (S.b (ldC x56_241 H242) fun x57_243 H244 =>
  S.b (up (iAddrS 2 x57_243 (env 5)) H244) fun x59_245 H246 =>
  S.c true (S.b (ldA 2 x59_245 H246) fun x60_247 H248 =>
  S.b (up (fAddr 1 (env 3)) H248) fun x61_249 H250 =>
  S.c true (S.b (ldC x61_249 H250) fun x62_251 H252 =>
  S.b (up (iAddrS 2 x62_251 (env 5)) H252) fun x64_253 H254 =>
  S.c true (S.b (ldA 2 x64_253 H254) fun x65_255 H256 =>
  S.b (up (binB Try.prog .neq 53 x60_247 x65_255) H256) fun x66_257 H258 =>
  S.i x66_257
  (some ((.bool false), H258))
  (S.b (up (binB Try.prog .add 3 (env 5) (.int .i64 1)) H258) fun x55_259 H260 =>
   R0 (env 2) (env 3) x55_259 H260))))))
 (P1 (putE 119 (putE 119 (putE 119 (putE 119 (putE 119 (putE 119 env (some 49) (env 5)) (some 50) x50_233) (some 51) x51_235) (some 52) x52_237) (some 53) x53_239) (some 6) (.int .i64 0)) H240)

theorem f25_L0_eq (S : Seam (Value × Heap)) (C : CallF) (n : Nat) : ∀ (m : Nat) (env : Env) (H : Heap), aloopK (acodeK S Try.prog C n 119 (cAt f25_c [1, 1, 0, 1, 0, 0])) m env H (kAt S Try.prog C n 119 f25_c [1, 1, 0, 1, 0] (fin Try.prog Try.f25)) = f25_L0 S C n m (env 2) (env 3) (env 5) H := by
  intro m env H
  refine aloopK_eq (L := fun m env H => f25_L0 S C n m (env 2) (env 3) (env 5) H) (fun env H => rfl) (fun m env H => ?_) m env H
  have h1 : acodeK S Try.prog C n 119 (cAt f25_c [1, 1, 0, 1, 0, 0]) env H (onNormal (fun env' H' => f25_L0 S C n m (env' 2) (env' 3) (env' 5) H') (kAt S Try.prog C n 119 f25_c [1, 1, 0, 1, 0] (fin Try.prog Try.f25))) = f25_L0G S C n (f25_L0 S C n m) (fun env H => aloopK (acodeK S Try.prog C n 119 (cAt f25_c [1, 1, 1, 0, 1, 0, 0])) n env H (kAt S Try.prog C n 119 f25_c [1, 1, 1, 0, 1, 0] (fin Try.prog Try.f25))) env H := by kernel_rfl
  have e0 : (fun env H => aloopK (acodeK S Try.prog C n 119 (cAt f25_c [1, 1, 1, 0, 1, 0, 0])) n env H (kAt S Try.prog C n 119 f25_c [1, 1, 1, 0, 1, 0] (fin Try.prog Try.f25))) = (fun env H => f25_L1 S C n n (env 2) (env 3) (env 6) H) := by funext env H; exact f25_L1_eq S C n n env H
  rw [e0] at h1
  exact h1.trans (by kernel_rfl)


noncomputable def f25 (S : Seam (Value × Heap)) (C : CallF) (n : Nat) (x0 : Value) (x1 : Value) (H : Heap) : Option (Value × Heap) :=
 S.b (newV (Value.cells x0).toList H) fun x2_1 H2 =>
 S.b (newV (Value.cells x1).toList H2) fun x3_3 H4 =>
 S.b (up (fAddr 0 x2_1) H4) fun x8_5 H6 =>
 S.b (ldC x8_5 H6) fun x9_7 H8 =>
 S.b (up (fAddr 0 x3_3) H8) fun x10_9 H10 =>
 S.b (ldC x10_9 H10) fun x11_11 H12 =>
 S.b (C 39 [x9_7, x11_11] H12) fun x12_13 H14 =>
 S.b (up (unB .not x12_13) H14) fun x13_15 H16 =>
 S.b (gd (wd x13_15 false) (up (fAddr 3 x2_1) H16) H16) fun x15_17 H18 =>
 S.b (gd (wd x13_15 false) (ldC x15_17 H18) H18) fun x16_19 H20 =>
 S.b (gd (wd x13_15 false) (up (fAddr 3 x3_3) H20) H20) fun x17_21 H22 =>
 S.b (gd (wd x13_15 false) (ldC x17_21 H22) H22) fun x18_23 H24 =>
 S.b (gd (wd x13_15 false) (C 39 [x16_19, x18_23] H24) H24) fun x19_25 H26 =>
 S.b (gd (wd x13_15 false) (up (unB .not x19_25) H26) H26) fun x20_27 H28 =>
 S.b (pickV x13_15 (.bool true) x20_27 H28) fun x21_29 H30 =>
 S.b (gd (wd x21_29 false) (up (fAddr 1 x2_1) H30) H30) fun x23_31 H32 =>
 S.b (gd (wd x21_29 false) (ldC x23_31 H32) H32) fun x24_33 H34 =>
 S.b (gd (wd x21_29 false) (up (lenS x24_33) H34) H34) fun x25_35 H36 =>
 S.b (gd (wd x21_29 false) (up (fAddr 1 x3_3) H36) H36) fun x26_37 H38 =>
 S.b (gd (wd x21_29 false) (ldC x26_37 H38) H38) fun x27_39 H40 =>
 S.b (gd (wd x21_29 false) (up (lenS x27_39) H40) H40) fun x28_41 H42 =>
 S.b (gd (wd x21_29 false) (up (binB Try.prog .neq 3 x25_35 x28_41) H42) H42) fun x29_43 H44 =>
 S.b (pickV x21_29 (.bool true) x29_43 H44) fun x30_45 H46 =>
 S.b (gd (wd x30_45 false) (up (fAddr 2 x2_1) H46) H46) fun x32_47 H48 =>
 S.b (gd (wd x30_45 false) (ldC x32_47 H48) H48) fun x33_49 H50 =>
 S.b (gd (wd x30_45 false) (up (lenS x33_49) H50) H50) fun x34_51 H52 =>
 S.b (gd (wd x30_45 false) (up (fAddr 2 x3_3) H52) H52) fun x35_53 H54 =>
 S.b (gd (wd x30_45 false) (ldC x35_53 H54) H54) fun x36_55 H56 =>
 S.b (gd (wd x30_45 false) (up (lenS x36_55) H56) H56) fun x37_57 H58 =>
 S.b (gd (wd x30_45 false) (up (binB Try.prog .neq 3 x34_51 x37_57) H58) H58) fun x38_59 H60 =>
 S.b (pickV x30_45 (.bool true) x38_59 H60) fun x39_61 H62 =>
 S.b (gd (wd x39_61 false) (up (fAddr 4 x2_1) H62) H62) fun x41_63 H64 =>
 S.b (gd (wd x39_61 false) (ldC x41_63 H64) H64) fun x42_65 H66 =>
 S.b (gd (wd x39_61 false) (up (lenS x42_65) H66) H66) fun x43_67 H68 =>
 S.b (gd (wd x39_61 false) (up (fAddr 4 x3_3) H68) H68) fun x44_69 H70 =>
 S.b (gd (wd x39_61 false) (ldC x44_69 H70) H70) fun x45_71 H72 =>
 S.b (gd (wd x39_61 false) (up (lenS x45_71) H72) H72) fun x46_73 H74 =>
 S.b (gd (wd x39_61 false) (up (binB Try.prog .neq 3 x43_67 x46_73) H74) H74) fun x47_75 H76 =>
 S.b (pickV x39_61 (.bool true) x47_75 H76) fun x48_77 H78 =>
 S.i x48_77
 (some ((.bool false), H78))
 (f25_L0 S C n n x2_1 x3_3 (.int .i64 0) H78)

noncomputable def f25G (S : Seam (Value × Heap)) (C : CallF) (n : Nat) (P0 : Env → Heap → Option (Value × Heap)) (x0 : Value) (x1 : Value) (H : Heap) : Option (Value × Heap) :=
 S.b (newV (Value.cells x0).toList H) fun x2_261 H262 =>
 S.b (newV (Value.cells x1).toList H262) fun x3_263 H264 =>
 S.b (up (fAddr 0 x2_261) H264) fun x8_265 H266 =>
 S.b (ldC x8_265 H266) fun x9_267 H268 =>
 S.b (up (fAddr 0 x3_263) H268) fun x10_269 H270 =>
 S.b (ldC x10_269 H270) fun x11_271 H272 =>
 S.b (C 39 [x9_267, x11_271] H272) fun x12_273 H274 =>
 S.b (up (unB .not x12_273) H274) fun x13_275 H276 =>
 S.b (gd (wd x13_275 false) (up (fAddr 3 x2_261) H276) H276) fun x15_277 H278 =>
 S.b (gd (wd x13_275 false) (ldC x15_277 H278) H278) fun x16_279 H280 =>
 S.b (gd (wd x13_275 false) (up (fAddr 3 x3_263) H280) H280) fun x17_281 H282 =>
 S.b (gd (wd x13_275 false) (ldC x17_281 H282) H282) fun x18_283 H284 =>
 S.b (gd (wd x13_275 false) (C 39 [x16_279, x18_283] H284) H284) fun x19_285 H286 =>
 S.b (gd (wd x13_275 false) (up (unB .not x19_285) H286) H286) fun x20_287 H288 =>
 S.b (pickV x13_275 (.bool true) x20_287 H288) fun x21_289 H290 =>
 S.b (gd (wd x21_289 false) (up (fAddr 1 x2_261) H290) H290) fun x23_291 H292 =>
 S.b (gd (wd x21_289 false) (ldC x23_291 H292) H292) fun x24_293 H294 =>
 S.b (gd (wd x21_289 false) (up (lenS x24_293) H294) H294) fun x25_295 H296 =>
 S.b (gd (wd x21_289 false) (up (fAddr 1 x3_263) H296) H296) fun x26_297 H298 =>
 S.b (gd (wd x21_289 false) (ldC x26_297 H298) H298) fun x27_299 H300 =>
 S.b (gd (wd x21_289 false) (up (lenS x27_299) H300) H300) fun x28_301 H302 =>
 S.b (gd (wd x21_289 false) (up (binB Try.prog .neq 3 x25_295 x28_301) H302) H302) fun x29_303 H304 =>
 S.b (pickV x21_289 (.bool true) x29_303 H304) fun x30_305 H306 =>
 S.b (gd (wd x30_305 false) (up (fAddr 2 x2_261) H306) H306) fun x32_307 H308 =>
 S.b (gd (wd x30_305 false) (ldC x32_307 H308) H308) fun x33_309 H310 =>
 S.b (gd (wd x30_305 false) (up (lenS x33_309) H310) H310) fun x34_311 H312 =>
 S.b (gd (wd x30_305 false) (up (fAddr 2 x3_263) H312) H312) fun x35_313 H314 =>
 S.b (gd (wd x30_305 false) (ldC x35_313 H314) H314) fun x36_315 H316 =>
 S.b (gd (wd x30_305 false) (up (lenS x36_315) H316) H316) fun x37_317 H318 =>
 S.b (gd (wd x30_305 false) (up (binB Try.prog .neq 3 x34_311 x37_317) H318) H318) fun x38_319 H320 =>
 S.b (pickV x30_305 (.bool true) x38_319 H320) fun x39_321 H322 =>
 S.b (gd (wd x39_321 false) (up (fAddr 4 x2_261) H322) H322) fun x41_323 H324 =>
 S.b (gd (wd x39_321 false) (ldC x41_323 H324) H324) fun x42_325 H326 =>
 S.b (gd (wd x39_321 false) (up (lenS x42_325) H326) H326) fun x43_327 H328 =>
 S.b (gd (wd x39_321 false) (up (fAddr 4 x3_263) H328) H328) fun x44_329 H330 =>
 S.b (gd (wd x39_321 false) (ldC x44_329 H330) H330) fun x45_331 H332 =>
 S.b (gd (wd x39_321 false) (up (lenS x45_331) H332) H332) fun x46_333 H334 =>
 S.b (gd (wd x39_321 false) (up (binB Try.prog .neq 3 x43_327 x46_333) H334) H334) fun x47_335 H336 =>
 S.b (pickV x39_321 (.bool true) x47_335 H336) fun x48_337 H338 =>
 S.i x48_337
 (some ((.bool false), H338))
 (P0 (putE 119 (putE 119 (putE 119 (putE 119 (putE 119 (putE 119 (putE 119 (putE 119 (putE 119 (putE 119 (putE 119 (putE 119 (putE 119 (putE 119 (putE 119 (putE 119 (putE 119 (putE 119 (putE 119 (putE 119 (putE 119 (putE 119 (putE 119 (putE 119 (putE 119 (putE 119 (putE 119 (putE 119 (putE 119 (putE 119 (putE 119 (putE 119 (putE 119 (putE 119 (putE 119 (putE 119 (putE 119 (putE 119 (putE 119 (putE 119 (putE 119 (putE 119 (putE 119 (putE 119 (putE 119 (env0 [x0, x1]) (some 2) x2_261) (some 3) x3_263) (some 4) (.bool false)) (some 8) x8_265) (some 9) x9_267) (some 10) x10_269) (some 11) x11_271) (some 12) x12_273) (some 13) x13_275) (some 14) x13_275) (some 15) x15_277) (some 16) x16_279) (some 17) x17_281) (some 18) x18_283) (some 19) x19_285) (some 20) x20_287) (some 21) x21_289) (some 22) x21_289) (some 23) x23_291) (some 24) x24_293) (some 25) x25_295) (some 26) x26_297) (some 27) x27_299) (some 28) x28_301) (some 29) x29_303) (some 30) x30_305) (some 31) x30_305) (some 32) x32_307) (some 33) x33_309) (some 34) x34_311) (some 35) x35_313) (some 36) x36_315) (some 37) x37_317) (some 38) x38_319) (some 39) x39_321) (some 40) x39_321) (some 41) x41_323) (some 42) x42_325) (some 43) x43_327) (some 44) x44_329) (some 45) x45_331) (some 46) x46_333) (some 47) x47_335) (some 48) x48_337) (some 5) (.int .i64 0)) H338)

theorem f25_main (S : Seam (Value × Heap)) (C : CallF) (n : Nat) (x0 : Value) (x1 : Value) (H : Heap) : acodeK S Try.prog C n 119 f25_c (env0 [x0, x1]) H (fin Try.prog Try.f25) = f25 S C n x0 x1 H := by
  have h1 : acodeK S Try.prog C n 119 f25_c (env0 [x0, x1]) H (fin Try.prog Try.f25) = f25G S C n (fun env H => aloopK (acodeK S Try.prog C n 119 (cAt f25_c [1, 1, 0, 1, 0, 0])) n env H (kAt S Try.prog C n 119 f25_c [1, 1, 0, 1, 0] (fin Try.prog Try.f25))) x0 x1 H := by kernel_rfl
  have e0 : (fun env H => aloopK (acodeK S Try.prog C n 119 (cAt f25_c [1, 1, 0, 1, 0, 0])) n env H (kAt S Try.prog C n 119 f25_c [1, 1, 0, 1, 0] (fin Try.prog Try.f25))) = (fun env H => f25_L0 S C n n (env 2) (env 3) (env 5) H) := by funext env H; exact f25_L0_eq S C n n env H
  rw [e0] at h1
  exact h1.trans (by kernel_rfl)


theorem f25_eq {gl : Bool} {E : Ext} (hE : E 25 = none) (n : Nat) (x0 : Value) (x1 : Value) (H : Heap) : acall Try.prog gl E (n + 1) 25 [x0, x1] H = f25 real (acall Try.prog gl E n) n x0 x1 H :=
  (acall_eq (N := 119) Try.func25 (by kernel_rfl) (by kernel_rfl) hE (okgl f25_c (by kernel_rfl)) (by kernel_rfl)).trans (f25_main real _ n x0 x1 H)

/-! incunable/incunablelaw25.bare -/
noncomputable def f26_c : Code := (Try.f26.body).getD .skip

noncomputable def f26_J1 (S : Seam (Value × Heap)) (C : CallF) (n : Nat) (x2_59 x4_60 : Value) (H61 : Heap) : Option (Value × Heap) :=
 S.b (ldA 5 x2_59 H61) fun x34_62 H63 =>
 S.b (stV 5 x4_60 x34_62 H63) fun _ H64 =>
 (resM [(ldA 5 x4_60 H64).map (·.1)]).map fun l => (one l, H64)

noncomputable def f26_L1 (S : Seam (Value × Heap)) (C : CallF) (n : Nat) : Nat → Value → Value → Value → Value → Heap → Option (Value × Heap)
 | 0, _, _, _, _, _ => none
 | m + 1, x1_32, x2_33, x4_34, x6_35, H36 =>
   S.b (up (fAddr 3 x2_33) H36) fun x21_37 H38 =>
   S.b (ldC x21_37 H38) fun x22_39 H40 =>
   S.b (up (lenS x22_39) H40) fun x23_41 H42 =>
   S.b (up (binB Try.prog .lss 3 x6_35 x23_41) H42) fun x24_43 H44 =>
   S.i x24_43
   (S.b (up (fAddr 3 x2_33) H44) fun x27_45 H46 =>
    S.b (ldC x27_45 H46) fun x28_47 H48 =>
    S.b (up (iAddrS 1 x28_47 x6_35) H48) fun x30_49 H50 =>
    S.b (stV 1 x30_49 (.string ⟨#[]⟩) H50) fun _ H51 =>
    S.b (up (binB Try.prog .add 3 x6_35 (.int .i64 1)) H51) fun x26_52 H53 =>
    f26_L1 S C n m x1_32 x2_33 x4_34 x26_52 H53)
   (S.b (up (unB .not x1_32) H44) fun x32_54 H55 =>
    S.i x32_54
    (S.b (up (fAddr 2 x2_33) H55) fun x33_56 H57 =>
     S.b (stV 1 x33_56 (.slice none 0 0) H57) fun _ H58 =>
     f26_J1 S C n x2_33 x4_34 H58)
    (f26_J1 S C n x2_33 x4_34 H55))

theorem f26_L1_eq (S : Seam (Value × Heap)) (C : CallF) (n : Nat) : ∀ (m : Nat) (env : Env) (H : Heap), aloopK (acodeK S Try.prog C n 35 (cAt f26_c [1, 1, 1, 0, 1, 0, 0])) m env H (kAt S Try.prog C n 35 f26_c [1, 1, 1, 0, 1, 0] (fin Try.prog Try.f26)) = f26_L1 S C n m (env 1) (env 2) (env 4) (env 6) H := by
  intro m env H
  refine aloopK_eq (L := fun m env H => f26_L1 S C n m (env 1) (env 2) (env 4) (env 6) H) (fun env H => rfl) (fun m env H => ?_) m env H
  kernel_rfl


noncomputable def f26_L0 (S : Seam (Value × Heap)) (C : CallF) (n : Nat) : Nat → Value → Value → Value → Value → Heap → Option (Value × Heap)
 | 0, _, _, _, _, _ => none
 | m + 1, x1_10, x2_11, x4_12, x5_13, H14 =>
   S.b (up (fAddr 0 x2_11) H14) fun x10_15 H16 =>
   S.b (ldC x10_15 H16) fun x11_17 H18 =>
   S.b (up (lenS x11_17) H18) fun x12_19 H20 =>
   S.b (up (binB Try.prog .lss 3 x5_13 x12_19) H20) fun x13_21 H22 =>
   S.i x13_21
   (S.b (up (fAddr 0 x2_11) H22) fun x16_23 H24 =>
    S.b (ldC x16_23 H24) fun x17_25 H26 =>
    S.b (up (iAddrS 1 x17_25 x5_13) H26) fun x19_27 H28 =>
    S.b (stV 1 x19_27 (.string ⟨#[]⟩) H28) fun _ H29 =>
    S.b (up (binB Try.prog .add 3 x5_13 (.int .i64 1)) H29) fun x15_30 H31 =>
    f26_L0 S C n m x1_10 x2_11 x4_12 x15_30 H31)
   (f26_L1 S C n n x1_10 x2_11 x4_12 (.int .i64 0) H22)

noncomputable def f26_L0G (S : Seam (Value × Heap)) (C : CallF) (n : Nat) (R0 : Value→Value→Value→Value→Heap→Option (Value × Heap)) (P1 : Env → Heap → Option (Value × Heap)) (env : Env) (H : Heap) : Option (Value × Heap) :=
 S.b (up (fAddr 0 (env 2)) H) fun x10_65 H66 =>
 S.b (ldC x10_65 H66) fun x11_67 H68 =>
 S.b (up (lenS x11_67) H68) fun x12_69 H70 =>
 S.b (up (binB Try.prog .lss 3 (env 5) x12_69) H70) fun x13_71 H72 =>
 S.i x13_71
 (S.b (up (fAddr 0 (env 2)) H72) fun x16_73 H74 =>
  S.b (ldC x16_73 H74) fun x17_75 H76 =>
  S.b (up (iAddrS 1 x17_75 (env 5)) H76) fun x19_77 H78 =>
  S.b (stV 1 x19_77 (.string ⟨#[]⟩) H78) fun u79 H80 =>
  S.b (up (binB Try.prog .add 3 (env 5) (.int .i64 1)) H80) fun x15_81 H82 =>
  R0 (env 1) (env 2) (env 4) x15_81 H82)
 (P1 (putE 35 (putE 35 (putE 35 (putE 35 (putE 35 (putE 35 env (some 9) (env 5)) (some 10) x10_65) (some 11) x11_67) (some 12) x12_69) (some 13) x13_71) (some 6) (.int .i64 0)) H72)

theorem f26_L0_eq (S : Seam (Value × Heap)) (C : CallF) (n : Nat) : ∀ (m : Nat) (env : Env) (H : Heap), aloopK (acodeK S Try.prog C n 35 (cAt f26_c [1, 1, 0, 1, 0, 0])) m env H (kAt S Try.prog C n 35 f26_c [1, 1, 0, 1, 0] (fin Try.prog Try.f26)) = f26_L0 S C n m (env 1) (env 2) (env 4) (env 5) H := by
  intro m env H
  refine aloopK_eq (L := fun m env H => f26_L0 S C n m (env 1) (env 2) (env 4) (env 5) H) (fun env H => rfl) (fun m env H => ?_) m env H
  have h1 : acodeK S Try.prog C n 35 (cAt f26_c [1, 1, 0, 1, 0, 0]) env H (onNormal (fun env' H' => f26_L0 S C n m (env' 1) (env' 2) (env' 4) (env' 5) H') (kAt S Try.prog C n 35 f26_c [1, 1, 0, 1, 0] (fin Try.prog Try.f26))) = f26_L0G S C n (f26_L0 S C n m) (fun env H => aloopK (acodeK S Try.prog C n 35 (cAt f26_c [1, 1, 1, 0, 1, 0, 0])) n env H (kAt S Try.prog C n 35 f26_c [1, 1, 1, 0, 1, 0] (fin Try.prog Try.f26))) env H := by kernel_rfl
  have e0 : (fun env H => aloopK (acodeK S Try.prog C n 35 (cAt f26_c [1, 1, 1, 0, 1, 0, 0])) n env H (kAt S Try.prog C n 35 f26_c [1, 1, 1, 0, 1, 0] (fin Try.prog Try.f26))) = (fun env H => f26_L1 S C n n (env 1) (env 2) (env 4) (env 6) H) := by funext env H; exact f26_L1_eq S C n n env H
  rw [e0] at h1
  exact h1.trans (by kernel_rfl)


noncomputable def f26 (S : Seam (Value × Heap)) (C : CallF) (n : Nat) (x0 : Value) (x1 : Value) (H : Heap) : Option (Value × Heap) :=
 S.b (newV (Value.cells x0).toList H) fun x2_1 H2 =>
 S.b (newV [(.slice none 0 0), (.slice none 0 0), (.slice none 0 0), (.slice none 0 0), (.slice none 0 0)] H2) fun x4_3 H4 =>
 S.b (ldA 5 x2_1 H4) fun x7_5 H6 =>
 S.b (C 20 [x7_5] H6) fun x8_7 H8 =>
 S.b (stV 5 x2_1 x8_7 H8) fun _ H9 =>
 f26_L0 S C n n x1 x2_1 x4_3 (.int .i64 0) H9

noncomputable def f26G (S : Seam (Value × Heap)) (C : CallF) (n : Nat) (P0 : Env → Heap → Option (Value × Heap)) (x0 : Value) (x1 : Value) (H : Heap) : Option (Value × Heap) :=
 S.b (newV (Value.cells x0).toList H) fun x2_83 H84 =>
 S.b (newV [(.slice none 0 0), (.slice none 0 0), (.slice none 0 0), (.slice none 0 0), (.slice none 0 0)] H84) fun x4_85 H86 =>
 S.b (ldA 5 x2_83 H86) fun x7_87 H88 =>
 S.b (C 20 [x7_87] H88) fun x8_89 H90 =>
 S.b (stV 5 x2_83 x8_89 H90) fun u91 H92 =>
 P0 (putE 35 (putE 35 (putE 35 (putE 35 (putE 35 (putE 35 (env0 [x0, x1]) (some 2) x2_83) (some 4) x4_85) (some 7) x7_87) (some 8) x8_89) none u91) (some 5) (.int .i64 0)) H92

theorem f26_main (S : Seam (Value × Heap)) (C : CallF) (n : Nat) (x0 : Value) (x1 : Value) (H : Heap) : acodeK S Try.prog C n 35 f26_c (env0 [x0, x1]) H (fin Try.prog Try.f26) = f26 S C n x0 x1 H := by
  have h1 : acodeK S Try.prog C n 35 f26_c (env0 [x0, x1]) H (fin Try.prog Try.f26) = f26G S C n (fun env H => aloopK (acodeK S Try.prog C n 35 (cAt f26_c [1, 1, 0, 1, 0, 0])) n env H (kAt S Try.prog C n 35 f26_c [1, 1, 0, 1, 0] (fin Try.prog Try.f26))) x0 x1 H := by kernel_rfl
  have e0 : (fun env H => aloopK (acodeK S Try.prog C n 35 (cAt f26_c [1, 1, 0, 1, 0, 0])) n env H (kAt S Try.prog C n 35 f26_c [1, 1, 0, 1, 0] (fin Try.prog Try.f26))) = (fun env H => f26_L0 S C n n (env 1) (env 2) (env 4) (env 5) H) := by funext env H; exact f26_L0_eq S C n n env H
  rw [e0] at h1
  exact h1.trans (by kernel_rfl)


theorem f26_eq {gl : Bool} {E : Ext} (hE : E 26 = none) (n : Nat) (x0 : Value) (x1 : Value) (H : Heap) : acall Try.prog gl E (n + 1) 26 [x0, x1] H = f26 real (acall Try.prog gl E n) n x0 x1 H :=
  (acall_eq (N := 35) Try.func26 (by kernel_rfl) (by kernel_rfl) hE (okgl f26_c (by kernel_rfl)) (by kernel_rfl)).trans (f26_main real _ n x0 x1 H)

/-! incunable/incunablelaw25.begins -/
noncomputable def f27_c : Code := (Try.f27.body).getD .skip

noncomputable def f27 (S : Seam (Value × Heap)) (C : CallF) (n : Nat) (x0 : Value) (x1 : Value) (H : Heap) : Option (Value × Heap) :=
 S.b (up (lenS x0) H) fun x6_1 H2 =>
 S.b (up (lenS x1) H2) fun x8_3 H4 =>
 S.b (up (binB Try.prog .lss 3 x6_1 x8_3) H4) fun x9_5 H6 =>
 S.b (gd (wd x9_5 true) (some (x0, H6)) H6) fun x11_7 H8 =>
 S.b (gd (wd x9_5 true) (some (x1, H8)) H8) fun x12_9 H10 =>
 S.b (gd (wd x9_5 true) (some (x0, H10)) H10) fun x13_11 H12 =>
 S.b (gd (wd x9_5 true) (up (lenS x13_11) H12) H12) fun x14_13 H14 =>
 S.b (gd (wd x9_5 true) (up (slcS 1 x12_9 none (some x14_13) none) H14) H14) fun x15_15 H16 =>
 S.b (gd (wd x9_5 true) (C 15 [x11_7, x15_15] H16) H16) fun x16_17 H18 =>
 S.b (pickV x9_5 x16_17 (.bool false) H18) fun x17_19 H20 =>
 some (x17_19, H20)

theorem f27_main (S : Seam (Value × Heap)) (C : CallF) (n : Nat) (x0 : Value) (x1 : Value) (H : Heap) : acodeK S Try.prog C n 18 f27_c (env0 [x0, x1]) H (fin Try.prog Try.f27) = f27 S C n x0 x1 H := by
  kernel_rfl


theorem f27_eq {gl : Bool} {E : Ext} (hE : E 27 = none) (n : Nat) (x0 : Value) (x1 : Value) (H : Heap) : acall Try.prog gl E (n + 1) 27 [x0, x1] H = f27 real (acall Try.prog gl E n) n x0 x1 H :=
  (acall_eq (N := 18) Try.func27 (by kernel_rfl) (by kernel_rfl) hE (okgl f27_c (by kernel_rfl)) (by kernel_rfl)).trans (f27_main real _ n x0 x1 H)

/-! incunable/incunablelaw25.chapter -/
noncomputable def f29_c : Code := (Try.f29.body).getD .skip

noncomputable def f29 (S : Seam (Value × Heap)) (C : CallF) (n : Nat) (H : Heap) : Option (Value × Heap) :=
 S.b (newV [(.slice none 0 0), (.slice none 0 0), (.slice none 0 0), (.slice none 0 0), (.slice none 0 0)] H) fun x0_1 H2 =>
 S.b (bldS 1 2 [(.string ⟨#[]⟩)] [(0, 1, (.string ⟨#[]⟩)), (1, 1, (.string ⟨#[110]⟩))] H2) fun x1_3 H4 =>
 S.b (bld [(.int .i64 0), (.int .i64 0)] [] H4) fun x2_5 H6 =>
 S.b (bld [(.int .i64 0), (.int .i64 0)] [] H6) fun x3_7 H8 =>
 S.b (bldS 2 2 [(.int .i64 0), (.int .i64 0)] [(0, 2, x2_5), (2, 2, x3_7)] H8) fun x4_9 H10 =>
 S.b (bldS 1 2 [(.string ⟨#[]⟩)] [(0, 1, (.string ⟨#[]⟩)), (1, 1, (.string ⟨#[101]⟩))] H10) fun x5_11 H12 =>
 S.b (bldS 1 1 [(.int .i64 0)] [(0, 1, (.int .i64 3))] H12) fun x6_13 H14 =>
 S.b (bld [(.int .i64 0), (.slice none 0 0), (.int .i64 0), (.int .i64 0)] [(1, 1, x6_13)] H14) fun x7_15 H16 =>
 S.b (bldS 1 1 [(.int .i64 0)] [(0, 1, (.int .i64 1))] H16) fun x8_17 H18 =>
 S.b (bld [(.int .i64 0), (.int .i64 0)] [(0, 1, (.int .i64 1)), (1, 1, (.int .i64 1))] H18) fun x9_19 H20 =>
 S.b (bld [(.int .i64 0), (.slice none 0 0), (.int .i64 0), (.int .i64 0)] [(0, 1, (.int .i64 1)), (1, 1, x8_17), (2, 2, x9_19)] H20) fun x10_21 H22 =>
 S.b (bldS 4 2 [(.int .i64 0), (.slice none 0 0), (.int .i64 0), (.int .i64 0)] [(0, 4, x7_15), (4, 4, x10_21)] H22) fun x11_23 H24 =>
 S.b (bld [(.slice none 0 0), (.slice none 0 0), (.slice none 0 0), (.slice none 0 0), (.slice none 0 0)] [(0, 1, x1_3), (1, 1, x4_9), (3, 1, x5_11), (4, 1, x11_23)] H24) fun x12_25 H26 =>
 S.b (stV 5 x0_1 x12_25 H26) fun _ H27 =>
 (resM [(ldA 5 x0_1 H27).map (·.1)]).map fun l => (one l, H27)

theorem f29_main (S : Seam (Value × Heap)) (C : CallF) (n : Nat) (H : Heap) : acodeK S Try.prog C n 13 f29_c (env0 []) H (fin Try.prog Try.f29) = f29 S C n H := by
  kernel_rfl


theorem f29_eq {gl : Bool} {E : Ext} (hE : E 29 = none) (n : Nat) (H : Heap) : acall Try.prog gl E (n + 1) 29 [] H = f29 real (acall Try.prog gl E n) n H :=
  (acall_eq (N := 13) Try.func29 (by kernel_rfl) (by kernel_rfl) hE (okgl f29_c (by kernel_rfl)) (by kernel_rfl)).trans (f29_main real _ n H)

/-! incunable/incunablelaw25.awake -/
noncomputable def f18_c : Code := (Try.f18.body).getD .skip

noncomputable def f18 (S : Seam (Value × Heap)) (C : CallF) (n : Nat) (H : Heap) : Option (Value × Heap) :=
 S.b (bldS 1 2 [(.int .u8 0)] [(0, 1, (.int .u8 97)), (1, 1, (.int .u8 98))] H) fun x9_1 H2 =>
 S.b (markV x9_1 H2) fun x10_3 H4 =>
 S.b (C 11 [x10_3] H4) fun x11_5 H6 =>
 S.b (extr 0 x11_5 H6) fun x12_7 H8 =>
 S.b (extr 1 x11_5 H8) fun x13_9 H10 =>
 S.b (bldS 1 2 [(.string ⟨#[]⟩)] [(0, 1, (.string ⟨#[97]⟩)), (1, 1, (.string ⟨#[]⟩))] H10) fun x15_11 H12 =>
 S.b (C 13 [x15_11] H12) fun x16_13 H14 =>
 S.b (extr 0 x16_13 H14) fun x17_15 H16 =>
 S.b (extr 1 x16_13 H16) fun x18_17 H18 =>
 S.b (C 29 [] H18) fun x20_19 H20 =>
 S.b (C 21 [x20_19] H20) fun x21_21 H22 =>
 S.b (extr 0 x21_21 H22) fun x22_23 H24 =>
 S.b (extr 1 x21_21 H24) fun x23_25 H26 =>
 S.b (bldS 1 4 [(.int .u8 0)] [(0, 1, (.int .u8 1)), (1, 1, (.int .u8 2)), (2, 1, (.int .u8 97)), (3, 1, (.int .u8 98))] H26) fun x25_27 H28 =>
 S.b (C 15 [x12_7, x25_27] H28) fun x26_29 H30 =>
 S.b (gd (wd x26_29 true) (some (x17_15, H30)) H30) fun x28_31 H32 =>
 S.b (gd (wd x26_29 true) (bldS 1 5 [(.int .u8 0)] [(0, 1, (.int .u8 2)), (1, 1, (.int .u8 2)), (2, 1, (.int .u8 1)), (3, 1, (.int .u8 97)), (4, 1, (.int .u8 0))] H32) H32) fun x29_33 H34 =>
 S.b (gd (wd x26_29 true) (C 15 [x28_31, x29_33] H34) H34) fun x30_35 H36 =>
 S.b (pickV x26_29 x30_35 (.bool false) H36) fun x31_37 H38 =>
 S.b (gd (wd x31_37 true) (some (x22_23, H38)) H38) fun x33_39 H40 =>
 S.b (gd (wd x31_37 true) (bldS 1 18 [(.int .u8 0)] [(0, 1, (.int .u8 3)), (1, 1, (.int .u8 2)), (2, 1, (.int .u8 2)), (3, 1, (.int .u8 0)), (4, 1, (.int .u8 0)), (5, 1, (.int .u8 0)), (6, 1, (.int .u8 0)), (7, 1, (.int .u8 2)), (8, 1, (.int .u8 0)), (9, 1, (.int .u8 1)), (10, 1, (.int .u8 3)), (11, 1, (.int .u8 0)), (12, 1, (.int .u8 0)), (13, 1, (.int .u8 1)), (14, 1, (.int .u8 1)), (15, 1, (.int .u8 1)), (16, 1, (.int .u8 1)), (17, 1, (.int .u8 1))] H40) H40) fun x34_41 H42 =>
 S.b (gd (wd x31_37 true) (C 15 [x33_39, x34_41] H42) H42) fun x35_43 H44 =>
 S.b (pickV x31_37 x35_43 (.bool false) H44) fun x36_45 H46 =>
 S.b (gd (wd x36_45 true) (some (x13_9, H46)) H46) fun x39_47 H48 =>
 S.b (gd (wd x36_45 true) (up (binB Try.prog .eql 25 x39_47 (.int .i64 0)) H48) H48) fun x40_49 H50 =>
 S.b (pickV x36_45 x40_49 (.bool false) H50) fun x41_51 H52 =>
 S.b (gd (wd x41_51 true) (some (x18_17, H52)) H52) fun x43_53 H54 =>
 S.b (gd (wd x41_51 true) (up (binB Try.prog .eql 25 x43_53 (.int .i64 0)) H54) H54) fun x44_55 H56 =>
 S.b (pickV x41_51 x44_55 (.bool false) H56) fun x45_57 H58 =>
 S.b (gd (wd x45_57 true) (some (x23_25, H58)) H58) fun x47_59 H60 =>
 S.b (gd (wd x45_57 true) (up (binB Try.prog .eql 25 x47_59 (.int .i64 0)) H60) H60) fun x48_61 H62 =>
 S.b (pickV x45_57 x48_61 (.bool false) H62) fun x49_63 H64 =>
 S.b (gd (wd x49_63 true) (some (x22_23, H64)) H64) fun x51_65 H66 =>
 S.b (gd (wd x49_63 true) (C 16 [x51_65] H66) H66) fun x52_67 H68 =>
 S.b (gd (wd x49_63 true) (up (binB Try.prog .eql 3 x52_67 (.int .i64 3)) H68) H68) fun x53_69 H70 =>
 S.b (pickV x49_63 x53_69 (.bool false) H70) fun x54_71 H72 =>
 S.b (gd (wd x54_71 true) (C 16 [(.slice none 0 0)] H72) H72) fun x56_73 H74 =>
 S.b (gd (wd x54_71 true) (up (binB Try.prog .eql 3 x56_73 (.int .i64 0)) H74) H74) fun x57_75 H76 =>
 S.b (pickV x54_71 x57_75 (.bool false) H76) fun x58_77 H78 =>
 some (x58_77, H78)

theorem f18_main (S : Seam (Value × Heap)) (C : CallF) (n : Nat) (H : Heap) : acodeK S Try.prog C n 59 f18_c (env0 []) H (fin Try.prog Try.f18) = f18 S C n H := by
  kernel_rfl


theorem f18_eq {gl : Bool} {E : Ext} (hE : E 18 = none) (n : Nat) (H : Heap) : acall Try.prog gl E (n + 1) 18 [] H = f18 real (acall Try.prog gl E n) n H :=
  (acall_eq (N := 59) Try.func18 (by kernel_rfl) (by kernel_rfl) hE (okgl f18_c (by kernel_rfl)) (by kernel_rfl)).trans (f18_main real _ n H)

/-! incunable/incunablelaw25.KeysFiles -/
noncomputable def f3_c : Code := (Try.f3.body).getD .skip

noncomputable def f3 (S : Seam (Value × Heap)) (C : CallF) (n : Nat) (x0 : Value) (x1 : Value) (H : Heap) : Option (Value × Heap) :=
 S.b (C 10 [x0] H) fun x17_1 H2 =>
 S.b (app 1 16 (.slice none 0 0) x1 H2) fun x20_3 H4 =>
 S.b (C 11 [x17_1] H4) fun x23_5 H6 =>
 S.b (extr 0 x23_5 H6) fun x24_7 H8 =>
 S.b (extr 1 x23_5 H8) fun x25_9 H10 =>
 S.b (C 12 [x0] H10) fun x28_11 H12 =>
 S.b (extr 0 x28_11 H12) fun x29_13 H14 =>
 S.b (extr 1 x28_11 H14) fun x30_15 H16 =>
 S.b (C 13 [x20_3] H16) fun x33_17 H18 =>
 S.b (extr 0 x33_17 H18) fun x34_19 H20 =>
 S.b (extr 1 x33_17 H20) fun x35_21 H22 =>
 S.b (C 14 [x1] H22) fun x38_23 H24 =>
 S.b (extr 0 x38_23 H24) fun x39_25 H26 =>
 S.b (extr 1 x38_23 H26) fun x40_27 H28 =>
 S.b (C 15 [x24_7, x29_13] H28) fun x43_29 H30 =>
 S.b (gd (wd x43_29 true) (some (x25_9, H30)) H30) fun x45_31 H32 =>
 S.b (gd (wd x43_29 true) (some (x30_15, H32)) H32) fun x46_33 H34 =>
 S.b (gd (wd x43_29 true) (up (binB Try.prog .eql 25 x45_31 x46_33) H34) H34) fun x47_35 H36 =>
 S.b (pickV x43_29 x47_35 (.bool false) H36) fun x48_37 H38 =>
 S.b (gd (wd x48_37 true) (some (x34_19, H38)) H38) fun x50_39 H40 =>
 S.b (gd (wd x48_37 true) (some (x39_25, H40)) H40) fun x51_41 H42 =>
 S.b (gd (wd x48_37 true) (C 15 [x50_39, x51_41] H42) H42) fun x52_43 H44 =>
 S.b (pickV x48_37 x52_43 (.bool false) H44) fun x53_45 H46 =>
 S.b (gd (wd x53_45 true) (some (x35_21, H46)) H46) fun x55_47 H48 =>
 S.b (gd (wd x53_45 true) (some (x40_27, H48)) H48) fun x56_49 H50 =>
 S.b (gd (wd x53_45 true) (up (binB Try.prog .eql 25 x55_47 x56_49) H50) H50) fun x57_51 H52 =>
 S.b (pickV x53_45 x57_51 (.bool false) H52) fun x58_53 H54 =>
 S.b (gd (wd x58_53 true) (some (x17_1, H54)) H54) fun x60_55 H56 =>
 S.b (gd (wd x58_53 true) (some (x0, H56)) H56) fun x61_57 H58 =>
 S.b (gd (wd x58_53 true) (C 15 [x60_55, x61_57] H58) H58) fun x62_59 H60 =>
 S.b (pickV x58_53 x62_59 (.bool false) H60) fun x63_61 H62 =>
 S.b (gd (wd x63_61 true) (some (x24_7, H62)) H62) fun x66_63 H64 =>
 S.b (gd (wd x63_61 true) (C 16 [x66_63] H64) H64) fun x67_65 H66 =>
 S.b (gd (wd x63_61 true) (some (x29_13, H66)) H66) fun x68_67 H68 =>
 S.b (gd (wd x63_61 true) (C 17 [x68_67] H68) H68) fun x69_69 H70 =>
 S.b (gd (wd x63_61 true) (up (binB Try.prog .eql 3 x67_65 x69_69) H70) H70) fun x70_71 H72 =>
 S.b (pickV x63_61 x70_71 (.bool false) H72) fun x71_73 H74 =>
 S.b (gd (wd x71_73 true) (some (x34_19, H74)) H74) fun x73_75 H76 =>
 S.b (gd (wd x71_73 true) (C 16 [x73_75] H76) H76) fun x74_77 H78 =>
 S.b (gd (wd x71_73 true) (some (x39_25, H78)) H78) fun x75_79 H80 =>
 S.b (gd (wd x71_73 true) (C 17 [x75_79] H80) H80) fun x76_81 H82 =>
 S.b (gd (wd x71_73 true) (up (binB Try.prog .eql 3 x74_77 x76_81) H82) H82) fun x77_83 H84 =>
 S.b (pickV x71_73 x77_83 (.bool false) H84) fun x78_85 H86 =>
 S.b (gd (wd x78_85 true) (some (x0, H86)) H86) fun x80_87 H88 =>
 S.b (gd (wd x78_85 true) (C 16 [x80_87] H88) H88) fun x81_89 H90 =>
 S.b (gd (wd x78_85 true) (some (x0, H90)) H90) fun x82_91 H92 =>
 S.b (gd (wd x78_85 true) (C 17 [x82_91] H92) H92) fun x83_93 H94 =>
 S.b (gd (wd x78_85 true) (up (binB Try.prog .eql 3 x81_89 x83_93) H94) H94) fun x84_95 H96 =>
 S.b (pickV x78_85 x84_95 (.bool false) H96) fun x85_97 H98 =>
 S.b (gd (wd x85_97 true) (C 18 [] H98) H98) fun x87_99 H100 =>
 S.b (pickV x85_97 x87_99 (.bool false) H100) fun x88_101 H102 =>
 some (x88_101, H102)

theorem f3_main (S : Seam (Value × Heap)) (C : CallF) (n : Nat) (x0 : Value) (x1 : Value) (H : Heap) : acodeK S Try.prog C n 89 f3_c (env0 [x0, x1]) H (fin Try.prog Try.f3) = f3 S C n x0 x1 H := by
  kernel_rfl


theorem f3_eq {gl : Bool} {E : Ext} (hE : E 3 = none) (n : Nat) (x0 : Value) (x1 : Value) (H : Heap) : acall Try.prog gl E (n + 1) 3 [x0, x1] H = f3 real (acall Try.prog gl E n) n x0 x1 H :=
  (acall_eq (N := 89) Try.func3 (by kernel_rfl) (by kernel_rfl) hE (okgl f3_c (by kernel_rfl)) (by kernel_rfl)).trans (f3_main real _ n x0 x1 H)

/-! incunable/incunablelaw25.KeysBytes -/
noncomputable def f4_c : Code := (Try.f4.body).getD .skip

noncomputable def f4 (S : Seam (Value × Heap)) (C : CallF) (n : Nat) (x0 : Value) (x1 : Value) (H : Heap) : Option (Value × Heap) :=
 S.b (C 11 [x0] H) fun x11_1 H2 =>
 S.b (extr 0 x11_1 H2) fun x12_3 H4 =>
 S.b (extr 1 x11_1 H4) fun x13_5 H6 =>
 S.b (C 11 [x1] H6) fun x16_7 H8 =>
 S.b (extr 0 x16_7 H8) fun x17_9 H10 =>
 S.b (extr 1 x16_7 H10) fun x18_11 H12 =>
 S.b (up (binB Try.prog .neq 25 x13_5 (.int .i64 0)) H12) fun x20_13 H14 =>
 S.b (gd (wd x20_13 false) (some (x18_11, H14)) H14) fun x22_15 H16 =>
 S.b (gd (wd x20_13 false) (up (binB Try.prog .neq 25 x22_15 (.int .i64 0)) H16) H16) fun x23_17 H18 =>
 S.b (pickV x20_13 (.bool true) x23_17 H18) fun x24_19 H20 =>
 S.i x24_19
 (S.b (up (binB Try.prog .eql 25 x13_5 (.int .i64 0)) H20) fun x26_21 H22 =>
  S.b (gd (wd x26_21 false) (some (x13_5, H22)) H22) fun x28_23 H24 =>
  S.b (gd (wd x26_21 false) (up (binB Try.prog .eql 25 x28_23 (.int .i64 5)) H24) H24) fun x29_25 H26 =>
  S.b (gd (wd x26_21 false) (some (x29_25, H26)) H26) fun x30_27 H28 =>
  S.b (gd (wd x30_27 true) (some (x0, H28)) H28) fun x31_29 H30 =>
  S.b (gd (wd x30_27 true) (up (lenS x31_29) H30) H30) fun x32_31 H32 =>
  S.b (gd (wd x30_27 true) (up (binB Try.prog .gtr 3 x32_31 (.int .i64 65000)) H32) H32) fun x33_33 H34 =>
  S.b (gd (wd x26_21 false) (pickV x30_27 x33_33 (.bool false) H34) H34) fun x34_35 H36 =>
  S.b (pickV x26_21 (.bool true) x34_35 H36) fun x35_37 H38 =>
  S.b (gd (wd x35_37 true) (some (x18_11, H38)) H38) fun x37_39 H40 =>
  S.b (gd (wd x35_37 true) (up (binB Try.prog .eql 25 x37_39 (.int .i64 0)) H40) H40) fun x38_41 H42 =>
  S.b (gd (wd x35_37 true) (some (x38_41, H42)) H42) fun x39_43 H44 =>
  S.b (gd (wd x39_43 false) (some (x18_11, H44)) H44) fun x40_45 H46 =>
  S.b (gd (wd x39_43 false) (up (binB Try.prog .eql 25 x40_45 (.int .i64 5)) H46) H46) fun x41_47 H48 =>
  S.b (gd (wd x39_43 false) (some (x41_47, H48)) H48) fun x42_49 H50 =>
  S.b (gd (wd x42_49 true) (some (x1, H50)) H50) fun x43_51 H52 =>
  S.b (gd (wd x42_49 true) (up (lenS x43_51) H52) H52) fun x44_53 H54 =>
  S.b (gd (wd x42_49 true) (up (binB Try.prog .gtr 3 x44_53 (.int .i64 65000)) H54) H54) fun x45_55 H56 =>
  S.b (gd (wd x39_43 false) (pickV x42_49 x45_55 (.bool false) H56) H56) fun x46_57 H58 =>
  S.b (gd (wd x35_37 true) (pickV x39_43 (.bool true) x46_57 H58) H58) fun x47_59 H60 =>
  S.b (pickV x35_37 x47_59 (.bool false) H60) fun x48_61 H62 =>
  S.b (gd (wd x48_61 true) (C 18 [] H62) H62) fun x50_63 H64 =>
  S.b (pickV x48_61 x50_63 (.bool false) H64) fun x51_65 H66 =>
  some (x51_65, H66))
 (S.b (C 15 [x12_3, x17_9] H20) fun x54_67 H68 =>
  S.b (C 15 [x0, x1] H68) fun x57_69 H70 =>
  S.b (up (binB Try.prog .eql 4 x54_67 x57_69) H70) fun x58_71 H72 =>
  S.b (gd (wd x58_71 true) (C 18 [] H72) H72) fun x60_73 H74 =>
  S.b (pickV x58_71 x60_73 (.bool false) H74) fun x61_75 H76 =>
  some (x61_75, H76))

theorem f4_main (S : Seam (Value × Heap)) (C : CallF) (n : Nat) (x0 : Value) (x1 : Value) (H : Heap) : acodeK S Try.prog C n 62 f4_c (env0 [x0, x1]) H (fin Try.prog Try.f4) = f4 S C n x0 x1 H := by
  kernel_rfl


theorem f4_eq {gl : Bool} {E : Ext} (hE : E 4 = none) (n : Nat) (x0 : Value) (x1 : Value) (H : Heap) : acall Try.prog gl E (n + 1) 4 [x0, x1] H = f4 real (acall Try.prog gl E n) n x0 x1 H :=
  (acall_eq (N := 62) Try.func4 (by kernel_rfl) (by kernel_rfl) hE (okgl f4_c (by kernel_rfl)) (by kernel_rfl)).trans (f4_main real _ n x0 x1 H)

/-! incunable/incunablelaw25.KeysPatterns -/
noncomputable def f5_c : Code := (Try.f5.body).getD .skip

noncomputable def f5 (S : Seam (Value × Heap)) (C : CallF) (n : Nat) (x0 : Value) (x1 : Value) (H : Heap) : Option (Value × Heap) :=
 S.b (C 13 [x0] H) fun x11_1 H2 =>
 S.b (extr 0 x11_1 H2) fun x12_3 H4 =>
 S.b (extr 1 x11_1 H4) fun x13_5 H6 =>
 S.b (C 13 [x1] H6) fun x16_7 H8 =>
 S.b (extr 0 x16_7 H8) fun x17_9 H10 =>
 S.b (extr 1 x16_7 H10) fun x18_11 H12 =>
 S.b (up (binB Try.prog .neq 25 x13_5 (.int .i64 0)) H12) fun x20_13 H14 =>
 S.b (gd (wd x20_13 false) (some (x18_11, H14)) H14) fun x22_15 H16 =>
 S.b (gd (wd x20_13 false) (up (binB Try.prog .neq 25 x22_15 (.int .i64 0)) H16) H16) fun x23_17 H18 =>
 S.b (pickV x20_13 (.bool true) x23_17 H18) fun x24_19 H20 =>
 S.b (gd (wd x24_19 false) (some (x12_3, H20)) H20) fun x26_21 H22 =>
 S.b (gd (wd x24_19 false) (some (x17_9, H22)) H22) fun x27_23 H24 =>
 S.b (gd (wd x24_19 false) (C 15 [x26_21, x27_23] H24) H24) fun x28_25 H26 =>
 S.b (gd (wd x24_19 false) (some (x0, H26)) H26) fun x29_27 H28 =>
 S.b (gd (wd x24_19 false) (some (x1, H28)) H28) fun x30_29 H30 =>
 S.b (gd (wd x24_19 false) (C 19 [x29_27, x30_29] H30) H30) fun x31_31 H32 =>
 S.b (gd (wd x24_19 false) (up (binB Try.prog .eql 4 x28_25 x31_31) H32) H32) fun x32_33 H34 =>
 S.b (pickV x24_19 (.bool true) x32_33 H34) fun x33_35 H36 =>
 S.b (gd (wd x33_35 true) (some (x13_5, H36)) H36) fun x35_37 H38 =>
 S.b (gd (wd x33_35 true) (up (binB Try.prog .eql 25 x35_37 (.int .i64 0)) H38) H38) fun x36_39 H40 =>
 S.b (gd (wd x33_35 true) (some (x36_39, H40)) H40) fun x37_41 H42 =>
 S.b (gd (wd x37_41 false) (some (x13_5, H42)) H42) fun x38_43 H44 =>
 S.b (gd (wd x37_41 false) (up (binB Try.prog .eql 25 x38_43 (.int .i64 5)) H44) H44) fun x39_45 H46 =>
 S.b (gd (wd x33_35 true) (pickV x37_41 (.bool true) x39_45 H46) H46) fun x40_47 H48 =>
 S.b (pickV x33_35 x40_47 (.bool false) H48) fun x41_49 H50 =>
 S.b (gd (wd x41_49 true) (C 18 [] H50) H50) fun x43_51 H52 =>
 S.b (pickV x41_49 x43_51 (.bool false) H52) fun x44_53 H54 =>
 some (x44_53, H54)

theorem f5_main (S : Seam (Value × Heap)) (C : CallF) (n : Nat) (x0 : Value) (x1 : Value) (H : Heap) : acodeK S Try.prog C n 45 f5_c (env0 [x0, x1]) H (fin Try.prog Try.f5) = f5 S C n x0 x1 H := by
  kernel_rfl


theorem f5_eq {gl : Bool} {E : Ext} (hE : E 5 = none) (n : Nat) (x0 : Value) (x1 : Value) (H : Heap) : acall Try.prog gl E (n + 1) 5 [x0, x1] H = f5 real (acall Try.prog gl E n) n x0 x1 H :=
  (acall_eq (N := 45) Try.func5 (by kernel_rfl) (by kernel_rfl) hE (okgl f5_c (by kernel_rfl)) (by kernel_rfl)).trans (f5_main real _ n x0 x1 H)

/-! incunable/incunablelaw25.KeysGrammars -/
noncomputable def f6_c : Code := (Try.f6.body).getD .skip

noncomputable def f6 (S : Seam (Value × Heap)) (C : CallF) (n : Nat) (x0 : Value) (H : Heap) : Option (Value × Heap) :=
 S.b (newV (Value.cells x0).toList H) fun x1_1 H2 =>
 S.b (ldA 5 x1_1 H2) fun x13_3 H4 =>
 S.b (C 20 [x13_3] H4) fun x14_5 H6 =>
 S.b (newV [(.slice none 0 0), (.slice none 0 0), (.slice none 0 0), (.slice none 0 0), (.slice none 0 0)] H6) fun x3_7 H8 =>
 S.b (stV 5 x3_7 x14_5 H8) fun _ H9 =>
 S.b (ldA 5 x3_7 H9) fun x16_10 H11 =>
 S.b (C 21 [x16_10] H11) fun x17_12 H13 =>
 S.b (extr 0 x17_12 H13) fun x18_14 H15 =>
 S.b (extr 1 x17_12 H15) fun x19_16 H17 =>
 S.b (ldA 5 x1_1 H17) fun x21_18 H19 =>
 S.b (C 22 [x21_18] H19) fun x22_20 H21 =>
 S.b (extr 0 x22_20 H21) fun x23_22 H23 =>
 S.b (extr 1 x22_20 H23) fun x24_24 H25 =>
 S.b (ldA 5 x3_7 H25) fun x26_26 H27 =>
 S.b (C 23 [x26_26] H27) fun x27_28 H29 =>
 S.b (extr 0 x27_28 H29) fun x28_30 H31 =>
 S.b (extr 1 x27_28 H31) fun x29_32 H33 =>
 S.b (ldA 5 x1_1 H33) fun x31_34 H35 =>
 S.b (C 24 [x31_34] H35) fun x32_36 H37 =>
 S.b (extr 0 x32_36 H37) fun x33_38 H39 =>
 S.b (extr 1 x32_36 H39) fun x34_40 H41 =>
 S.b (C 15 [x18_14, x23_22] H41) fun x37_42 H43 =>
 S.b (gd (wd x37_42 true) (some (x19_16, H43)) H43) fun x39_44 H45 =>
 S.b (gd (wd x37_42 true) (some (x24_24, H45)) H45) fun x40_46 H47 =>
 S.b (gd (wd x37_42 true) (up (binB Try.prog .eql 25 x39_44 x40_46) H47) H47) fun x41_48 H49 =>
 S.b (pickV x37_42 x41_48 (.bool false) H49) fun x42_50 H51 =>
 S.b (gd (wd x42_50 true) (some (x28_30, H51)) H51) fun x44_52 H53 =>
 S.b (gd (wd x42_50 true) (some (x33_38, H53)) H53) fun x45_54 H55 =>
 S.b (gd (wd x42_50 true) (C 15 [x44_52, x45_54] H55) H55) fun x46_56 H57 =>
 S.b (pickV x42_50 x46_56 (.bool false) H57) fun x47_58 H59 =>
 S.b (gd (wd x47_58 true) (some (x29_32, H59)) H59) fun x49_60 H61 =>
 S.b (gd (wd x47_58 true) (some (x34_40, H61)) H61) fun x50_62 H63 =>
 S.b (gd (wd x47_58 true) (up (binB Try.prog .eql 25 x49_60 x50_62) H63) H63) fun x51_64 H65 =>
 S.b (pickV x47_58 x51_64 (.bool false) H65) fun x52_66 H67 =>
 S.b (gd (wd x52_66 true) (ldA 5 x3_7 H67) H67) fun x54_68 H69 =>
 S.b (gd (wd x52_66 true) (ldA 5 x1_1 H69) H69) fun x55_70 H71 =>
 S.b (gd (wd x52_66 true) (C 25 [x54_68, x55_70] H71) H71) fun x56_72 H73 =>
 S.b (pickV x52_66 x56_72 (.bool false) H73) fun x57_74 H75 =>
 S.b (gd (wd x57_74 true) (some (x18_14, H75)) H75) fun x60_76 H77 =>
 S.b (gd (wd x57_74 true) (C 16 [x60_76] H77) H77) fun x61_78 H79 =>
 S.b (gd (wd x57_74 true) (some (x23_22, H79)) H79) fun x62_80 H81 =>
 S.b (gd (wd x57_74 true) (C 17 [x62_80] H81) H81) fun x63_82 H83 =>
 S.b (gd (wd x57_74 true) (up (binB Try.prog .eql 3 x61_78 x63_82) H83) H83) fun x64_84 H85 =>
 S.b (pickV x57_74 x64_84 (.bool false) H85) fun x65_86 H87 =>
 S.b (gd (wd x65_86 true) (some (x28_30, H87)) H87) fun x67_88 H89 =>
 S.b (gd (wd x65_86 true) (C 16 [x67_88] H89) H89) fun x68_90 H91 =>
 S.b (gd (wd x65_86 true) (some (x33_38, H91)) H91) fun x69_92 H93 =>
 S.b (gd (wd x65_86 true) (C 17 [x69_92] H93) H93) fun x70_94 H95 =>
 S.b (gd (wd x65_86 true) (up (binB Try.prog .eql 3 x68_90 x70_94) H95) H95) fun x71_96 H97 =>
 S.b (pickV x65_86 x71_96 (.bool false) H97) fun x72_98 H99 =>
 S.b (gd (wd x72_98 true) (C 18 [] H99) H99) fun x74_100 H101 =>
 S.b (pickV x72_98 x74_100 (.bool false) H101) fun x75_102 H103 =>
 some (x75_102, H103)

theorem f6_main (S : Seam (Value × Heap)) (C : CallF) (n : Nat) (x0 : Value) (H : Heap) : acodeK S Try.prog C n 76 f6_c (env0 [x0]) H (fin Try.prog Try.f6) = f6 S C n x0 H := by
  kernel_rfl


theorem f6_eq {gl : Bool} {E : Ext} (hE : E 6 = none) (n : Nat) (x0 : Value) (H : Heap) : acall Try.prog gl E (n + 1) 6 [x0] H = f6 real (acall Try.prog gl E n) n x0 H :=
  (acall_eq (N := 76) Try.func6 (by kernel_rfl) (by kernel_rfl) hE (okgl f6_c (by kernel_rfl)) (by kernel_rfl)).trans (f6_main real _ n x0 H)

/-! incunable/incunablelaw25.KeysApart -/
noncomputable def f7_c : Code := (Try.f7.body).getD .skip

noncomputable def f7 (S : Seam (Value × Heap)) (C : CallF) (n : Nat) (x0 : Value) (x1 : Value) (H : Heap) : Option (Value × Heap) :=
 S.b (newV (Value.cells x0).toList H) fun x2_1 H2 =>
 S.b (newV (Value.cells x1).toList H2) fun x3_3 H4 =>
 S.b (ldA 5 x2_1 H4) fun x14_5 H6 =>
 S.b (C 21 [x14_5] H6) fun x15_7 H8 =>
 S.b (extr 0 x15_7 H8) fun x16_9 H10 =>
 S.b (extr 1 x15_7 H10) fun x17_11 H12 =>
 S.b (ldA 5 x3_3 H12) fun x19_13 H14 =>
 S.b (C 21 [x19_13] H14) fun x20_15 H16 =>
 S.b (extr 0 x20_15 H16) fun x21_17 H18 =>
 S.b (extr 1 x20_15 H18) fun x22_19 H20 =>
 S.b (ldA 5 x2_1 H20) fun x24_21 H22 =>
 S.b (C 23 [x24_21] H22) fun x25_23 H24 =>
 S.b (extr 0 x25_23 H24) fun x26_25 H26 =>
 S.b (extr 1 x25_23 H26) fun x27_27 H28 =>
 S.b (ldA 5 x3_3 H28) fun x29_29 H30 =>
 S.b (C 23 [x29_29] H30) fun x30_31 H32 =>
 S.b (extr 0 x30_31 H32) fun x31_33 H34 =>
 S.b (extr 1 x30_31 H34) fun x32_35 H36 =>
 S.b (up (binB Try.prog .eql 25 x17_11 (.int .i64 0)) H36) fun x34_37 H38 =>
 S.b (gd (wd x34_37 true) (some (x22_19, H38)) H38) fun x36_39 H40 =>
 S.b (gd (wd x34_37 true) (up (binB Try.prog .eql 25 x36_39 (.int .i64 0)) H40) H40) fun x37_41 H42 =>
 S.b (pickV x34_37 x37_41 (.bool false) H42) fun x38_43 H44 =>
 S.b (gd (wd x38_43 true) (some (x16_9, H44)) H44) fun x40_45 H46 =>
 S.b (gd (wd x38_43 true) (some (x21_17, H46)) H46) fun x41_47 H48 =>
 S.b (gd (wd x38_43 true) (C 15 [x40_45, x41_47] H48) H48) fun x42_49 H50 =>
 S.c (!(wd x38_43 true) || true) (S.c (!(wd x38_43 true) || ((!(wd x38_43 true) || sameBlk H48 H50 (blkOf x2_1)) && true)) (S.b (gd (wd x38_43 true) (ldA 5 x2_1 H50) H50) fun x43_51 H52 =>
  S.b (gd (wd x38_43 true) (C 26 [x43_51, (.bool false)] H52) H52) fun x44_53 H54 =>
  S.c (!(wd x38_43 true) || true) (S.c (!(wd x38_43 true) || ((!(wd x38_43 true) || sameBlk H52 H54 (blkOf x3_3)) && ((!(wd x38_43 true) || sameBlk H48 H50 (blkOf x3_3)) && true))) (S.b (gd (wd x38_43 true) (ldA 5 x3_3 H54) H54) fun x45_55 H56 =>
   S.b (gd (wd x38_43 true) (C 26 [x45_55, (.bool false)] H56) H56) fun x46_57 H58 =>
   S.c (!(wd x38_43 true) || true) (S.b (gd (wd x38_43 true) (C 25 [x44_53, x46_57] H58) H58) fun x47_59 H60 =>
    S.c (!(wd x38_43 true) || true) (S.b (gd (wd x38_43 true) (up (binB Try.prog .neq 4 x42_49 x47_59) H60) H60) fun x48_61 H62 =>
     S.b (pickV x38_43 x48_61 (.bool false) H62) fun x49_63 H64 =>
     S.i x49_63
     (some ((.bool false), H64))
     (S.b (up (binB Try.prog .eql 25 x27_27 (.int .i64 0)) H64) fun x51_65 H66 =>
      S.b (gd (wd x51_65 true) (some (x32_35, H66)) H66) fun x53_67 H68 =>
      S.b (gd (wd x51_65 true) (up (binB Try.prog .eql 25 x53_67 (.int .i64 0)) H68) H68) fun x54_69 H70 =>
      S.b (pickV x51_65 x54_69 (.bool false) H70) fun x55_71 H72 =>
      S.b (gd (wd x55_71 true) (some (x26_25, H72)) H72) fun x57_73 H74 =>
      S.b (gd (wd x55_71 true) (some (x31_33, H74)) H74) fun x58_75 H76 =>
      S.b (gd (wd x55_71 true) (C 15 [x57_73, x58_75] H76) H76) fun x59_77 H78 =>
      S.c (!(wd x55_71 true) || true) (S.c (!(wd x55_71 true) || ((!(wd x55_71 true) || sameBlk H76 H78 (blkOf x2_1)) && true)) (S.b (gd (wd x55_71 true) (ldA 5 x2_1 H78) H78) fun x60_79 H80 =>
       S.b (gd (wd x55_71 true) (C 26 [x60_79, (.bool true)] H80) H80) fun x61_81 H82 =>
       S.c (!(wd x55_71 true) || true) (S.c (!(wd x55_71 true) || ((!(wd x55_71 true) || sameBlk H80 H82 (blkOf x3_3)) && ((!(wd x55_71 true) || sameBlk H76 H78 (blkOf x3_3)) && true))) (S.b (gd (wd x55_71 true) (ldA 5 x3_3 H82) H82) fun x62_83 H84 =>
        S.b (gd (wd x55_71 true) (C 26 [x62_83, (.bool true)] H84) H84) fun x63_85 H86 =>
        S.c (!(wd x55_71 true) || true) (S.b (gd (wd x55_71 true) (C 25 [x61_81, x63_85] H86) H86) fun x64_87 H88 =>
         S.c (!(wd x55_71 true) || true) (S.b (gd (wd x55_71 true) (up (binB Try.prog .neq 4 x59_77 x64_87) H88) H88) fun x65_89 H90 =>
          S.b (pickV x55_71 x65_89 (.bool false) H90) fun x66_91 H92 =>
          S.i x66_91
          (some ((.bool false), H92))
          (S.b (C 18 [] H92) fun x67_93 H94 =>
           some (x67_93, H94)))))))))))))))

theorem f7_main (S : Seam (Value × Heap)) (C : CallF) (n : Nat) (x0 : Value) (x1 : Value) (H : Heap) : acodeK S Try.prog C n 68 f7_c (env0 [x0, x1]) H (fin Try.prog Try.f7) = f7 S C n x0 x1 H := by
  kernel_rfl


theorem f7_eq {gl : Bool} {E : Ext} (hE : E 7 = none) (n : Nat) (x0 : Value) (x1 : Value) (H : Heap) : acall Try.prog gl E (n + 1) 7 [x0, x1] H = f7 real (acall Try.prog gl E n) n x0 x1 H :=
  (acall_eq (N := 68) Try.func7 (by kernel_rfl) (by kernel_rfl) hE (okgl f7_c (by kernel_rfl)) (by kernel_rfl)).trans (f7_main real _ n x0 x1 H)

/-! incunable/incunablelaw25.KeysKinds -/
noncomputable def f8_c : Code := (Try.f8.body).getD .skip

noncomputable def f8_J1 (S : Seam (Value × Heap)) (C : CallF) (n : Nat) (R0 : Value→Value→Value→Heap→Option (Value × Heap)) (x5_80 x7_81 x12_82 : Value) (H83 : Heap) : Option (Value × Heap) :=
 S.b (up (binB Try.prog .add 3 x12_82 (.int .i64 1)) H83) fun x44_84 H85 =>
 R0 x5_80 x7_81 x44_84 H85

noncomputable def f8_J2 (S : Seam (Value × Heap)) (C : CallF) (n : Nat) (R0 : Value→Value→Value→Heap→Option (Value × Heap)) (x5_56 x7_57 x12_58 : Value) (H59 : Heap) : Option (Value × Heap) :=
 S.b (up (iAddrA 2 5 x5_56 x12_58) H59) fun x60_60 H61 =>
 S.b (ldA 5 x60_60 H61) fun x61_62 H63 =>
 S.b (C 23 [x61_62] H63) fun x62_64 H65 =>
 S.b (extr 0 x62_64 H65) fun x63_66 H67 =>
 S.b (extr 1 x62_64 H67) fun x64_68 H69 =>
 S.b (up (binB Try.prog .eql 25 x64_68 (.int .i64 0)) H69) fun x66_70 H71 =>
 S.i x66_70
 (S.b (bldS 1 1 [(.slice none 0 0)] [(0, 1, x63_66)] H71) fun x69_72 H73 =>
  S.b (app 1 24 x7_57 x69_72 H73) fun x70_74 H75 =>
  f8_J1 S C n R0 x5_56 x70_74 x12_58 H75)
 (f8_J1 S C n R0 x5_56 x7_57 x12_58 H71)

noncomputable def f8_L2 (S : Seam (Value × Heap)) (C : CallF) (n : Nat) (R1 : Value→Value→Heap→Option (Value × Heap)) : Nat → Value → Value → Value → Heap → Option (Value × Heap)
 | 0, _, _, _, _ => none
 | m + 1, x7_93, x17_94, x18_95, H96 =>
   S.b (up (lenS x7_93) H96) fun x79_97 H98 =>
   S.b (up (binB Try.prog .lss 3 x18_95 x79_97) H98) fun x80_99 H100 =>
   S.i x80_99
   (S.b (up (iAddrS 1 x7_93 x17_94) H100) fun x85_101 H102 =>
    S.c true (S.b (ldC x85_101 H102) fun x86_103 H104 =>
    S.b (up (iAddrS 1 x7_93 x18_95) H104) fun x89_105 H106 =>
    S.c true (S.b (ldC x89_105 H106) fun x90_107 H108 =>
    S.b (C 27 [x86_103, x90_107] H108) fun x91_109 H110 =>
    S.c true (S.b (gd (wd x91_109 false) (some (x7_93, H110)) H110) fun x93_111 H112 =>
     S.b (gd (wd x91_109 false) (some (x17_94, H112)) H112) fun x94_113 H114 =>
     S.b (gd (wd x91_109 false) (up (iAddrS 1 x93_111 x94_113) H114) H114) fun x95_115 H116 =>
     S.c (!(wd x91_109 false) || true) (S.b (gd (wd x91_109 false) (ldC x95_115 H116) H116) fun x96_117 H118 =>
     S.b (gd (wd x91_109 false) (C 16 [x96_117] H118) H118) fun x97_119 H120 =>
     S.c (!(wd x91_109 false) || true) (S.b (gd (wd x91_109 false) (some (x7_93, H120)) H120) fun x98_121 H122 =>
      S.b (gd (wd x91_109 false) (some (x18_95, H122)) H122) fun x99_123 H124 =>
      S.b (gd (wd x91_109 false) (up (iAddrS 1 x98_121 x99_123) H124) H124) fun x100_125 H126 =>
      S.c (!(wd x91_109 false) || ((!(wd x91_109 false) || sameBlk H118 H120 (blkOf x100_125)) && true)) (S.b (gd (wd x91_109 false) (ldC x100_125 H126) H126) fun x101_127 H128 =>
      S.b (gd (wd x91_109 false) (C 16 [x101_127] H128) H128) fun x102_129 H130 =>
      S.c (!(wd x91_109 false) || true) (S.b (gd (wd x91_109 false) (up (binB Try.prog .neq 3 x97_119 x102_129) H130) H130) fun x103_131 H132 =>
       S.b (gd (wd x91_109 false) (some (x103_131, H132)) H132) fun x104_133 H134 =>
       S.b (gd (wd x104_133 true) (some (x7_93, H134)) H134) fun x105_135 H136 =>
       S.b (gd (wd x104_133 true) (some (x17_94, H136)) H136) fun x106_137 H138 =>
       S.b (gd (wd x104_133 true) (up (iAddrS 1 x105_135 x106_137) H138) H138) fun x107_139 H140 =>
       S.c (!(wd x104_133 true) || true) (S.b (gd (wd x104_133 true) (ldC x107_139 H140) H140) fun x108_141 H142 =>
       S.b (gd (wd x104_133 true) (some (x7_93, H142)) H142) fun x109_143 H144 =>
       S.b (gd (wd x104_133 true) (some (x18_95, H144)) H144) fun x110_145 H146 =>
       S.b (gd (wd x104_133 true) (up (iAddrS 1 x109_143 x110_145) H146) H146) fun x111_147 H148 =>
       S.c (!(wd x104_133 true) || true) (S.b (gd (wd x104_133 true) (ldC x111_147 H148) H148) fun x112_149 H150 =>
       S.b (gd (wd x104_133 true) (C 15 [x108_141, x112_149] H150) H150) fun x113_151 H152 =>
       S.c (!(wd x104_133 true) || true) (S.b (gd (wd x91_109 false) (pickV x104_133 x113_151 (.bool false) H152) H152) fun x114_153 H154 =>
        S.b (pickV x91_109 (.bool true) x114_153 H154) fun x115_155 H156 =>
        S.b (gd (wd x115_155 false) (some (x7_93, H156)) H156) fun x117_157 H158 =>
        S.b (gd (wd x115_155 false) (some (x17_94, H158)) H158) fun x118_159 H160 =>
        S.b (gd (wd x115_155 false) (up (iAddrS 1 x117_157 x118_159) H160) H160) fun x119_161 H162 =>
        S.c (!(wd x115_155 false) || true) (S.b (gd (wd x115_155 false) (ldC x119_161 H162) H162) fun x120_163 H164 =>
        S.b (gd (wd x115_155 false) (C 16 [x120_163] H164) H164) fun x121_165 H166 =>
        S.c (!(wd x115_155 false) || true) (S.b (gd (wd x115_155 false) (up (binB Try.prog .lss 3 x121_165 (.int .i64 1)) H166) H166) fun x122_167 H168 =>
         S.b (pickV x115_155 (.bool true) x122_167 H168) fun x123_169 H170 =>
         S.i x123_169
         (some ((.bool false), H170))
         (S.b (up (binB Try.prog .add 3 x18_95 (.int .i64 1)) H170) fun x82_171 H172 =>
          f8_L2 S C n R1 m x7_93 x17_94 x82_171 H172))))))))))))))
   (S.b (up (binB Try.prog .add 3 x17_94 (.int .i64 1)) H100) fun x76_173 H174 =>
    R1 x7_93 x76_173 H174)

theorem f8_L2_eq (S : Seam (Value × Heap)) (C : CallF) (n : Nat) (R1 : Value→Value→Heap→Option (Value × Heap)) : ∀ (m : Nat) (env : Env) (H : Heap), aloopK (acodeK S Try.prog C n 125 (cAt f8_c [1, 1, 1, 1, 1, 1, 1, 0, 1, 0, 0, 1, 0, 0, 1, 0, 0])) m env H (kAt S Try.prog C n 125 (cAt f8_c [1, 1, 1, 1, 1, 1, 1, 0, 1, 0, 0]) [1, 0, 0, 1, 0] (onNormal (fun env' H' => R1 (env' 7) (env' 17) H') (kAt S Try.prog C n 125 f8_c [1, 1, 1, 1, 1, 1, 1, 0, 1, 0] (fin Try.prog Try.f8)))) = f8_L2 S C n R1 m (env 7) (env 17) (env 18) H := by
  intro m env H
  refine aloopK_eq (L := fun m env H => f8_L2 S C n R1 m (env 7) (env 17) (env 18) H) (fun env H => rfl) (fun m env H => ?_) m env H
  kernel_rfl


noncomputable def f8_L1 (S : Seam (Value × Heap)) (C : CallF) (n : Nat) : Nat → Value → Value → Heap → Option (Value × Heap)
 | 0, _, _, _ => none
 | m + 1, x7_86, x17_87, H88 =>
   S.b (up (lenS x7_86) H88) fun x73_89 H90 =>
   S.b (up (binB Try.prog .lss 3 x17_87 x73_89) H90) fun x74_91 H92 =>
   S.i x74_91
   (f8_L2 S C n (f8_L1 S C n m) n x7_86 x17_87 (.int .i64 0) H92)
   (S.b (C 18 [] H92) fun x124_175 H176 =>
    some (x124_175, H176))

noncomputable def f8_L1G (S : Seam (Value × Heap)) (C : CallF) (n : Nat) (R1 : Value→Value→Heap→Option (Value × Heap)) (P2 : Env → Heap → Option (Value × Heap)) (env : Env) (H : Heap) : Option (Value × Heap) :=
 S.b (up (lenS (env 7)) H) fun x73_177 H178 =>
 S.b (up (binB Try.prog .lss 3 (env 17) x73_177) H178) fun x74_179 H180 =>
 S.i x74_179
 (P2 (putE 125 (putE 125 (putE 125 (putE 125 (putE 125 env (some 71) (env 17)) (some 72) (env 7)) (some 73) x73_177) (some 74) x74_179) (some 18) (.int .i64 0)) H180)
 (S.b (C 18 [] H180) fun x124_181 H182 =>
  some (x124_181, H182))

theorem f8_L1_eq (S : Seam (Value × Heap)) (C : CallF) (n : Nat) : ∀ (m : Nat) (env : Env) (H : Heap), aloopK (acodeK S Try.prog C n 125 (cAt f8_c [1, 1, 1, 1, 1, 1, 1, 0, 1, 0, 0])) m env H (kAt S Try.prog C n 125 f8_c [1, 1, 1, 1, 1, 1, 1, 0, 1, 0] (fin Try.prog Try.f8)) = f8_L1 S C n m (env 7) (env 17) H := by
  intro m env H
  refine aloopK_eq (L := fun m env H => f8_L1 S C n m (env 7) (env 17) H) (fun env H => rfl) (fun m env H => ?_) m env H
  have h1 : acodeK S Try.prog C n 125 (cAt f8_c [1, 1, 1, 1, 1, 1, 1, 0, 1, 0, 0]) env H (onNormal (fun env' H' => f8_L1 S C n m (env' 7) (env' 17) H') (kAt S Try.prog C n 125 f8_c [1, 1, 1, 1, 1, 1, 1, 0, 1, 0] (fin Try.prog Try.f8))) = f8_L1G S C n (f8_L1 S C n m) (fun env H => aloopK (acodeK S Try.prog C n 125 (cAt f8_c [1, 1, 1, 1, 1, 1, 1, 0, 1, 0, 0, 1, 0, 0, 1, 0, 0])) n env H (kAt S Try.prog C n 125 (cAt f8_c [1, 1, 1, 1, 1, 1, 1, 0, 1, 0, 0]) [1, 0, 0, 1, 0] (onNormal (fun env' H' => (f8_L1 S C n m) (env' 7) (env' 17) H') (kAt S Try.prog C n 125 f8_c [1, 1, 1, 1, 1, 1, 1, 0, 1, 0] (fin Try.prog Try.f8))))) env H := by kernel_rfl
  have e0 : (fun env H => aloopK (acodeK S Try.prog C n 125 (cAt f8_c [1, 1, 1, 1, 1, 1, 1, 0, 1, 0, 0, 1, 0, 0, 1, 0, 0])) n env H (kAt S Try.prog C n 125 (cAt f8_c [1, 1, 1, 1, 1, 1, 1, 0, 1, 0, 0]) [1, 0, 0, 1, 0] (onNormal (fun env' H' => (f8_L1 S C n m) (env' 7) (env' 17) H') (kAt S Try.prog C n 125 f8_c [1, 1, 1, 1, 1, 1, 1, 0, 1, 0] (fin Try.prog Try.f8))))) = (fun env H => f8_L2 S C n (f8_L1 S C n m) n (env 7) (env 17) (env 18) H) := by funext env H; exact f8_L2_eq S C n (f8_L1 S C n m) n env H
  rw [e0] at h1
  exact h1.trans (by kernel_rfl)


noncomputable def f8_L0 (S : Seam (Value × Heap)) (C : CallF) (n : Nat) : Nat → Value → Value → Value → Heap → Option (Value × Heap)
 | 0, _, _, _, _ => none
 | m + 1, x5_34, x7_35, x12_36, H37 =>
   S.b (up (binB Try.prog .lss 3 x12_36 (.int .i64 2)) H37) fun x42_38 H39 =>
   S.i x42_38
   (S.b (up (iAddrA 2 5 x5_34 x12_36) H39) fun x47_40 H41 =>
    S.b (ldA 5 x47_40 H41) fun x48_42 H43 =>
    S.b (C 21 [x48_42] H43) fun x49_44 H45 =>
    S.b (extr 0 x49_44 H45) fun x50_46 H47 =>
    S.b (extr 1 x49_44 H47) fun x51_48 H49 =>
    S.b (up (binB Try.prog .eql 25 x51_48 (.int .i64 0)) H49) fun x53_50 H51 =>
    S.i x53_50
    (S.b (bldS 1 1 [(.slice none 0 0)] [(0, 1, x50_46)] H51) fun x56_52 H53 =>
     S.b (app 1 24 x7_35 x56_52 H53) fun x57_54 H55 =>
     f8_J2 S C n (f8_L0 S C n m) x5_34 x57_54 x12_36 H55)
    (f8_J2 S C n (f8_L0 S C n m) x5_34 x7_35 x12_36 H51))
   (f8_L1 S C n n x7_35 (.int .i64 0) H39)

noncomputable def f8_L0G (S : Seam (Value × Heap)) (C : CallF) (n : Nat) (R0 : Value→Value→Value→Heap→Option (Value × Heap)) (P1 : Env → Heap → Option (Value × Heap)) (env : Env) (H : Heap) : Option (Value × Heap) :=
 S.b (up (binB Try.prog .lss 3 (env 12) (.int .i64 2)) H) fun x42_183 H184 =>
 S.i x42_183
 (S.b (up (iAddrA 2 5 (env 5) (env 12)) H184) fun x47_185 H186 =>
  S.b (ldA 5 x47_185 H186) fun x48_187 H188 =>
  S.b (C 21 [x48_187] H188) fun x49_189 H190 =>
  S.b (extr 0 x49_189 H190) fun x50_191 H192 =>
  S.b (extr 1 x49_189 H192) fun x51_193 H194 =>
  S.b (up (binB Try.prog .eql 25 x51_193 (.int .i64 0)) H194) fun x53_195 H196 =>
  S.i x53_195
  (S.b (bldS 1 1 [(.slice none 0 0)] [(0, 1, x50_191)] H196) fun x56_197 H198 =>
   S.b (app 1 24 (env 7) x56_197 H198) fun x57_199 H200 =>
   S.b (up (iAddrA 2 5 (env 5) (env 12)) H200) fun x60_201 H202 =>
   S.b (ldA 5 x60_201 H202) fun x61_203 H204 =>
   S.b (C 23 [x61_203] H204) fun x62_205 H206 =>
   S.b (extr 0 x62_205 H206) fun x63_207 H208 =>
   S.b (extr 1 x62_205 H208) fun x64_209 H210 =>
   S.b (up (binB Try.prog .eql 25 x64_209 (.int .i64 0)) H210) fun x66_211 H212 =>
   S.i x66_211
   (S.b (bldS 1 1 [(.slice none 0 0)] [(0, 1, x63_207)] H212) fun x69_213 H214 =>
    S.b (app 1 24 x57_199 x69_213 H214) fun x70_215 H216 =>
    S.b (up (binB Try.prog .add 3 (env 12) (.int .i64 1)) H216) fun x44_217 H218 =>
    R0 (env 5) x70_215 x44_217 H218)
   (S.b (up (binB Try.prog .add 3 (env 12) (.int .i64 1)) H212) fun x44_219 H220 =>
    R0 (env 5) x57_199 x44_219 H220))
  (S.b (up (iAddrA 2 5 (env 5) (env 12)) H196) fun x60_221 H222 =>
   S.b (ldA 5 x60_221 H222) fun x61_223 H224 =>
   S.b (C 23 [x61_223] H224) fun x62_225 H226 =>
   S.b (extr 0 x62_225 H226) fun x63_227 H228 =>
   S.b (extr 1 x62_225 H228) fun x64_229 H230 =>
   S.b (up (binB Try.prog .eql 25 x64_229 (.int .i64 0)) H230) fun x66_231 H232 =>
   S.i x66_231
   (S.b (bldS 1 1 [(.slice none 0 0)] [(0, 1, x63_227)] H232) fun x69_233 H234 =>
    S.b (app 1 24 (env 7) x69_233 H234) fun x70_235 H236 =>
    S.b (up (binB Try.prog .add 3 (env 12) (.int .i64 1)) H236) fun x44_237 H238 =>
    R0 (env 5) x70_235 x44_237 H238)
   (S.b (up (binB Try.prog .add 3 (env 12) (.int .i64 1)) H232) fun x44_239 H240 =>
    R0 (env 5) (env 7) x44_239 H240)))
 (P1 (putE 125 (putE 125 (putE 125 env (some 41) (env 12)) (some 42) x42_183) (some 17) (.int .i64 0)) H184)

theorem f8_L0_eq (S : Seam (Value × Heap)) (C : CallF) (n : Nat) : ∀ (m : Nat) (env : Env) (H : Heap), aloopK (acodeK S Try.prog C n 125 (cAt f8_c [1, 1, 1, 1, 1, 1, 0, 1, 0, 0])) m env H (kAt S Try.prog C n 125 f8_c [1, 1, 1, 1, 1, 1, 0, 1, 0] (fin Try.prog Try.f8)) = f8_L0 S C n m (env 5) (env 7) (env 12) H := by
  intro m env H
  refine aloopK_eq (L := fun m env H => f8_L0 S C n m (env 5) (env 7) (env 12) H) (fun env H => rfl) (fun m env H => ?_) m env H
  have h1 : acodeK S Try.prog C n 125 (cAt f8_c [1, 1, 1, 1, 1, 1, 0, 1, 0, 0]) env H (onNormal (fun env' H' => f8_L0 S C n m (env' 5) (env' 7) (env' 12) H') (kAt S Try.prog C n 125 f8_c [1, 1, 1, 1, 1, 1, 0, 1, 0] (fin Try.prog Try.f8))) = f8_L0G S C n (f8_L0 S C n m) (fun env H => aloopK (acodeK S Try.prog C n 125 (cAt f8_c [1, 1, 1, 1, 1, 1, 1, 0, 1, 0, 0])) n env H (kAt S Try.prog C n 125 f8_c [1, 1, 1, 1, 1, 1, 1, 0, 1, 0] (fin Try.prog Try.f8))) env H := by kernel_rfl
  have e0 : (fun env H => aloopK (acodeK S Try.prog C n 125 (cAt f8_c [1, 1, 1, 1, 1, 1, 1, 0, 1, 0, 0])) n env H (kAt S Try.prog C n 125 f8_c [1, 1, 1, 1, 1, 1, 1, 0, 1, 0] (fin Try.prog Try.f8))) = (fun env H => f8_L1 S C n n (env 7) (env 17) H) := by funext env H; exact f8_L1_eq S C n n env H
  rw [e0] at h1
  exact h1.trans (by kernel_rfl)


noncomputable def f8_J3 (S : Seam (Value × Heap)) (C : CallF) (n : Nat) (x1_15 x5_16 x7_17 : Value) (H18 : Heap) : Option (Value × Heap) :=
 S.b (C 13 [x1_15] H18) fun x32_19 H20 =>
 S.b (extr 0 x32_19 H20) fun x33_21 H22 =>
 S.b (extr 1 x32_19 H22) fun x34_23 H24 =>
 S.b (up (binB Try.prog .eql 25 x34_23 (.int .i64 0)) H24) fun x36_25 H26 =>
 S.i x36_25
 (S.b (bldS 1 1 [(.slice none 0 0)] [(0, 1, x33_21)] H26) fun x39_27 H28 =>
  S.b (app 1 24 x7_17 x39_27 H28) fun x40_29 H30 =>
  f8_L0 S C n n x5_16 x40_29 (.int .i64 0) H30)
 (f8_L0 S C n n x5_16 x7_17 (.int .i64 0) H26)

noncomputable def f8 (S : Seam (Value × Heap)) (C : CallF) (n : Nat) (x0 : Value) (x1 : Value) (x2 : Value) (H : Heap) : Option (Value × Heap) :=
 S.b (newV (Value.cells x2).toList H) fun x5_1 H2 =>
 S.b (C 11 [x0] H2) fun x21_3 H4 =>
 S.b (extr 0 x21_3 H4) fun x22_5 H6 =>
 S.b (extr 1 x21_3 H6) fun x23_7 H8 =>
 S.b (up (binB Try.prog .eql 25 x23_7 (.int .i64 0)) H8) fun x25_9 H10 =>
 S.i x25_9
 (S.b (bldS 1 1 [(.slice none 0 0)] [(0, 1, x22_5)] H10) fun x28_11 H12 =>
  S.b (app 1 24 (.slice none 0 0) x28_11 H12) fun x29_13 H14 =>
  f8_J3 S C n x1 x5_1 x29_13 H14)
 (f8_J3 S C n x1 x5_1 (.slice none 0 0) H10)

noncomputable def f8G (S : Seam (Value × Heap)) (C : CallF) (n : Nat) (P0 : Env → Heap → Option (Value × Heap)) (x0 : Value) (x1 : Value) (x2 : Value) (H : Heap) : Option (Value × Heap) :=
 S.b (newV (Value.cells x2).toList H) fun x5_241 H242 =>
 S.b (C 11 [x0] H242) fun x21_243 H244 =>
 S.b (extr 0 x21_243 H244) fun x22_245 H246 =>
 S.b (extr 1 x21_243 H246) fun x23_247 H248 =>
 S.b (up (binB Try.prog .eql 25 x23_247 (.int .i64 0)) H248) fun x25_249 H250 =>
 S.i x25_249
 (S.b (bldS 1 1 [(.slice none 0 0)] [(0, 1, x22_245)] H250) fun x28_251 H252 =>
  S.b (app 1 24 (.slice none 0 0) x28_251 H252) fun x29_253 H254 =>
  S.b (C 13 [x1] H254) fun x32_255 H256 =>
  S.b (extr 0 x32_255 H256) fun x33_257 H258 =>
  S.b (extr 1 x32_255 H258) fun x34_259 H260 =>
  S.b (up (binB Try.prog .eql 25 x34_259 (.int .i64 0)) H260) fun x36_261 H262 =>
  S.i x36_261
  (S.b (bldS 1 1 [(.slice none 0 0)] [(0, 1, x33_257)] H262) fun x39_263 H264 =>
   S.b (app 1 24 x29_253 x39_263 H264) fun x40_265 H266 =>
   P0 (putE 125 (putE 125 (putE 125 (putE 125 (putE 125 (putE 125 (putE 125 (putE 125 (putE 125 (putE 125 (putE 125 (putE 125 (putE 125 (putE 125 (putE 125 (putE 125 (putE 125 (putE 125 (putE 125 (putE 125 (putE 125 (putE 125 (putE 125 (putE 125 (putE 125 (putE 125 (putE 125 (putE 125 (putE 125 (putE 125 (putE 125 (putE 125 (env0 [x0, x1, x2]) (some 5) x5_241) (some 6) (.bool false)) (some 7) (.slice none 0 0)) (some 20) x0) (some 21) x21_243) (some 19) x21_243) (some 22) x22_245) (some 23) x23_247) (some 8) x22_245) (some 9) x23_247) (some 24) x23_247) (some 25) x25_249) (some 26) (.slice none 0 0)) (some 27) x22_245) (some 28) x28_251) (some 29) x29_253) (some 7) x29_253) (some 31) x1) (some 32) x32_255) (some 30) x32_255) (some 33) x33_257) (some 34) x34_259) (some 10) x33_257) (some 11) x34_259) (some 35) x34_259) (some 36) x36_261) (some 37) x29_253) (some 38) x33_257) (some 39) x39_263) (some 40) x40_265) (some 7) x40_265) (some 12) (.int .i64 0)) H266)
  (P0 (putE 125 (putE 125 (putE 125 (putE 125 (putE 125 (putE 125 (putE 125 (putE 125 (putE 125 (putE 125 (putE 125 (putE 125 (putE 125 (putE 125 (putE 125 (putE 125 (putE 125 (putE 125 (putE 125 (putE 125 (putE 125 (putE 125 (putE 125 (putE 125 (putE 125 (putE 125 (putE 125 (env0 [x0, x1, x2]) (some 5) x5_241) (some 6) (.bool false)) (some 7) (.slice none 0 0)) (some 20) x0) (some 21) x21_243) (some 19) x21_243) (some 22) x22_245) (some 23) x23_247) (some 8) x22_245) (some 9) x23_247) (some 24) x23_247) (some 25) x25_249) (some 26) (.slice none 0 0)) (some 27) x22_245) (some 28) x28_251) (some 29) x29_253) (some 7) x29_253) (some 31) x1) (some 32) x32_255) (some 30) x32_255) (some 33) x33_257) (some 34) x34_259) (some 10) x33_257) (some 11) x34_259) (some 35) x34_259) (some 36) x36_261) (some 12) (.int .i64 0)) H262))
 (S.b (C 13 [x1] H250) fun x32_267 H268 =>
  S.b (extr 0 x32_267 H268) fun x33_269 H270 =>
  S.b (extr 1 x32_267 H270) fun x34_271 H272 =>
  S.b (up (binB Try.prog .eql 25 x34_271 (.int .i64 0)) H272) fun x36_273 H274 =>
  S.i x36_273
  (S.b (bldS 1 1 [(.slice none 0 0)] [(0, 1, x33_269)] H274) fun x39_275 H276 =>
   S.b (app 1 24 (.slice none 0 0) x39_275 H276) fun x40_277 H278 =>
   P0 (putE 125 (putE 125 (putE 125 (putE 125 (putE 125 (putE 125 (putE 125 (putE 125 (putE 125 (putE 125 (putE 125 (putE 125 (putE 125 (putE 125 (putE 125 (putE 125 (putE 125 (putE 125 (putE 125 (putE 125 (putE 125 (putE 125 (putE 125 (putE 125 (putE 125 (putE 125 (putE 125 (env0 [x0, x1, x2]) (some 5) x5_241) (some 6) (.bool false)) (some 7) (.slice none 0 0)) (some 20) x0) (some 21) x21_243) (some 19) x21_243) (some 22) x22_245) (some 23) x23_247) (some 8) x22_245) (some 9) x23_247) (some 24) x23_247) (some 25) x25_249) (some 31) x1) (some 32) x32_267) (some 30) x32_267) (some 33) x33_269) (some 34) x34_271) (some 10) x33_269) (some 11) x34_271) (some 35) x34_271) (some 36) x36_273) (some 37) (.slice none 0 0)) (some 38) x33_269) (some 39) x39_275) (some 40) x40_277) (some 7) x40_277) (some 12) (.int .i64 0)) H278)
  (P0 (putE 125 (putE 125 (putE 125 (putE 125 (putE 125 (putE 125 (putE 125 (putE 125 (putE 125 (putE 125 (putE 125 (putE 125 (putE 125 (putE 125 (putE 125 (putE 125 (putE 125 (putE 125 (putE 125 (putE 125 (putE 125 (putE 125 (env0 [x0, x1, x2]) (some 5) x5_241) (some 6) (.bool false)) (some 7) (.slice none 0 0)) (some 20) x0) (some 21) x21_243) (some 19) x21_243) (some 22) x22_245) (some 23) x23_247) (some 8) x22_245) (some 9) x23_247) (some 24) x23_247) (some 25) x25_249) (some 31) x1) (some 32) x32_267) (some 30) x32_267) (some 33) x33_269) (some 34) x34_271) (some 10) x33_269) (some 11) x34_271) (some 35) x34_271) (some 36) x36_273) (some 12) (.int .i64 0)) H274))

theorem f8_main (S : Seam (Value × Heap)) (C : CallF) (n : Nat) (x0 : Value) (x1 : Value) (x2 : Value) (H : Heap) : acodeK S Try.prog C n 125 f8_c (env0 [x0, x1, x2]) H (fin Try.prog Try.f8) = f8 S C n x0 x1 x2 H := by
  have h1 : acodeK S Try.prog C n 125 f8_c (env0 [x0, x1, x2]) H (fin Try.prog Try.f8) = f8G S C n (fun env H => aloopK (acodeK S Try.prog C n 125 (cAt f8_c [1, 1, 1, 1, 1, 1, 0, 1, 0, 0])) n env H (kAt S Try.prog C n 125 f8_c [1, 1, 1, 1, 1, 1, 0, 1, 0] (fin Try.prog Try.f8))) x0 x1 x2 H := by kernel_rfl
  have e0 : (fun env H => aloopK (acodeK S Try.prog C n 125 (cAt f8_c [1, 1, 1, 1, 1, 1, 0, 1, 0, 0])) n env H (kAt S Try.prog C n 125 f8_c [1, 1, 1, 1, 1, 1, 0, 1, 0] (fin Try.prog Try.f8))) = (fun env H => f8_L0 S C n n (env 5) (env 7) (env 12) H) := by funext env H; exact f8_L0_eq S C n n env H
  rw [e0] at h1
  exact h1.trans (by kernel_rfl)


theorem f8_eq {gl : Bool} {E : Ext} (hE : E 8 = none) (n : Nat) (x0 : Value) (x1 : Value) (x2 : Value) (H : Heap) : acall Try.prog gl E (n + 1) 8 [x0, x1, x2] H = f8 real (acall Try.prog gl E n) n x0 x1 x2 H :=
  (acall_eq (N := 125) Try.func8 (by kernel_rfl) (by kernel_rfl) hE (okgl f8_c (by kernel_rfl)) (by kernel_rfl)).trans (f8_main real _ n x0 x1 x2 H)

/-! incunable/incunablelaw25.KeysKnown -/
noncomputable def f9_c : Code := (Try.f9.body).getD .skip

noncomputable def f9_J1 (S : Seam (Value × Heap)) (C : CallF) (n : Nat) (R1 : Value→Value→Value→Heap→Option (Value × Heap)) (x1_147 x4_148 x5_149 x6_150 : Value) (H151 : Heap) : Option (Value × Heap) :=
 S.b (ldA 5 x6_150 H151) fun x155_152 H153 =>
 S.b (C 6 [x155_152] H153) fun x156_154 H155 =>
 S.b (up (unB .not x156_154) H155) fun x157_156 H157 =>
 S.b (gd (wd x157_156 false) (ldA 5 x4_148 H157) H157) fun x159_158 H159 =>
 S.b (gd (wd x157_156 false) (ldA 5 x6_150 H159) H159) fun x160_160 H161 =>
 S.b (gd (wd x157_156 false) (C 7 [x159_158, x160_160] H161) H161) fun x161_162 H163 =>
 S.b (gd (wd x157_156 false) (up (unB .not x161_162) H163) H163) fun x162_164 H165 =>
 S.b (pickV x157_156 (.bool true) x162_164 H165) fun x163_166 H167 =>
 S.b (gd (wd x163_166 false) (ldA 5 x6_150 H167) H167) fun x165_168 H169 =>
 S.b (gd (wd x163_166 false) (ldA 5 x4_148 H169) H169) fun x166_170 H171 =>
 S.b (gd (wd x163_166 false) (C 7 [x165_168, x166_170] H171) H171) fun x167_172 H173 =>
 S.b (gd (wd x163_166 false) (up (unB .not x167_172) H173) H173) fun x168_174 H175 =>
 S.b (pickV x163_166 (.bool true) x168_174 H175) fun x169_176 H177 =>
 S.b (gd (wd x169_176 false) (ldA 5 x4_148 H177) H177) fun x171_178 H179 =>
 S.b (gd (wd x169_176 false) (ldA 5 x6_150 H179) H179) fun x172_180 H181 =>
 S.b (gd (wd x169_176 false) (bld [(.slice none 0 0), (.slice none 0 0), (.slice none 0 0), (.slice none 0 0), (.slice none 0 0), (.slice none 0 0), (.slice none 0 0), (.slice none 0 0), (.slice none 0 0), (.slice none 0 0)] [(0, 5, x171_178), (5, 5, x172_180)] H181) H181) fun x173_182 H183 =>
 S.b (gd (wd x169_176 false) (C 8 [(.slice none 0 0), (.slice none 0 0), x173_182] H183) H183) fun x174_184 H185 =>
 S.b (gd (wd x169_176 false) (up (unB .not x174_184) H185) H185) fun x175_186 H187 =>
 S.b (pickV x169_176 (.bool true) x175_186 H187) fun x176_188 H189 =>
 S.i x176_188
 (some ((.bool false), H189))
 (S.b (up (binB Try.prog .add 3 x5_149 (.int .i64 1)) H189) fun x78_190 H191 =>
  R1 x1_147 x4_148 x78_190 H191)

noncomputable def f9_L2 (S : Seam (Value × Heap)) (C : CallF) (n : Nat) : Nat → Value → Heap → Option (Value × Heap)
 | 0, _, _ => none
 | m + 1, x7_317, H318 =>
   S.b (up (binB Try.prog .lss 3 x7_317 (.int .i64 256)) H318) fun x178_319 H320 =>
   S.i x178_319
   (S.b (cvI .u8 x7_317 H320) fun x182_321 H322 =>
    S.b (bldS 1 1 [(.int .u8 0)] [(0, 1, x182_321)] H322) fun x183_323 H324 =>
    S.b (C 3 [x183_323, (.slice none 0 0)] H324) fun x184_325 H326 =>
    S.b (up (unB .not x184_325) H326) fun x185_327 H328 =>
    S.i x185_327
    (some ((.bool false), H328))
    (S.b (up (binB Try.prog .add 3 x7_317 (.int .i64 1)) H328) fun x180_329 H330 =>
     f9_L2 S C n m x180_329 H330))
   (S.b (gd (wd (.bool true) true) (C 18 [] H320) H320) fun x187_331 H332 =>
    S.b (pickV (.bool true) x187_331 (.bool false) H332) fun x188_333 H334 =>
    S.b (gd (wd x188_333 true) (bld [(.slice none 0 0), (.slice none 0 0), (.slice none 0 0), (.slice none 0 0), (.slice none 0 0)] [] H334) H334) fun x190_335 H336 =>
    S.b (gd (wd x188_333 true) (C 6 [x190_335] H336) H336) fun x191_337 H338 =>
    S.b (pickV x188_333 x191_337 (.bool false) H338) fun x192_339 H340 =>
    S.b (gd (wd x192_339 true) (bldS 1 2 [(.string ⟨#[]⟩)] [(0, 1, (.string ⟨#[97]⟩)), (1, 1, (.string ⟨#[98]⟩))] H340) H340) fun x194_341 H342 =>
    S.b (gd (wd x192_339 true) (bldS 1 1 [(.string ⟨#[]⟩)] [(0, 1, (.string ⟨#[97, 98]⟩))] H342) H342) fun x195_343 H344 =>
    S.b (gd (wd x192_339 true) (C 5 [x194_341, x195_343] H344) H344) fun x196_345 H346 =>
    S.b (pickV x192_339 x196_345 (.bool false) H346) fun x197_347 H348 =>
    S.b (gd (wd x197_347 true) (bldS 1 1 [(.string ⟨#[]⟩)] [(0, 1, (.string ⟨#[]⟩))] H348) H348) fun x199_349 H350 =>
    S.b (gd (wd x197_347 true) (C 5 [(.slice none 0 0), x199_349] H350) H350) fun x200_351 H352 =>
    S.b (pickV x197_347 x200_351 (.bool false) H352) fun x201_353 H354 =>
    some (x201_353, H354))

theorem f9_L2_eq (S : Seam (Value × Heap)) (C : CallF) (n : Nat) : ∀ (m : Nat) (env : Env) (H : Heap), aloopK (acodeK S Try.prog C n 202 (cAt f9_c [1, 1, 1, 1, 1, 1, 0, 1, 0, 0])) m env H (kAt S Try.prog C n 202 f9_c [1, 1, 1, 1, 1, 1, 0, 1, 0] (fin Try.prog Try.f9)) = f9_L2 S C n m (env 7) H := by
  intro m env H
  refine aloopK_eq (L := fun m env H => f9_L2 S C n m (env 7) H) (fun env H => rfl) (fun m env H => ?_) m env H
  kernel_rfl


noncomputable def f9_L1 (S : Seam (Value × Heap)) (C : CallF) (n : Nat) : Nat → Value → Value → Value → Heap → Option (Value × Heap)
 | 0, _, _, _, _ => none
 | m + 1, x1_120, x4_121, x5_122, H123 =>
   S.b (up (binB Try.prog .lss 3 x5_122 (.int .i64 12)) H123) fun x76_124 H125 =>
   S.i x76_124
   (S.b (ldA 5 x4_121 H125) fun x79_126 H127 =>
    S.b (C 20 [x79_126] H127) fun x80_128 H129 =>
    S.b (newV [(.slice none 0 0), (.slice none 0 0), (.slice none 0 0), (.slice none 0 0), (.slice none 0 0)] H129) fun x6_130 H131 =>
    S.b (stV 5 x6_130 x80_128 H131) fun _ H132 =>
    S.b (up (binB Try.prog .eql 3 x5_122 (.int .i64 0)) H132) fun x90_133 H134 =>
    S.i x90_133
    (S.b (up (fAddr 0 x6_130) H134) fun x91_135 H136 =>
     S.b (ldC x91_135 H136) fun x92_137 H138 =>
     S.b (up (iAddrS 1 x92_137 (.int .i64 1)) H138) fun x93_139 H140 =>
     S.b (stV 1 x93_139 (.string ⟨#[109]⟩) H140) fun _ H141 =>
     f9_J1 S C n (f9_L1 S C n m) x1_120 x4_121 x5_122 x6_130 H141)
    (S.b (up (binB Try.prog .eql 3 x5_122 (.int .i64 1)) H134) fun x95_192 H193 =>
     S.i x95_192
     (S.b (up (fAddr 3 x6_130) H193) fun x96_194 H195 =>
      S.b (ldC x96_194 H195) fun x97_196 H197 =>
      S.b (up (iAddrS 1 x97_196 (.int .i64 1)) H197) fun x98_198 H199 =>
      S.b (stV 1 x98_198 (.string ⟨#[102]⟩) H199) fun _ H200 =>
      f9_J1 S C n (f9_L1 S C n m) x1_120 x4_121 x5_122 x6_130 H200)
     (S.b (up (binB Try.prog .eql 3 x5_122 (.int .i64 2)) H193) fun x100_201 H202 =>
      S.i x100_201
      (S.b (up (fAddr 2 x6_130) H202) fun x101_203 H204 =>
       S.b (ldC x101_203 H204) fun x102_205 H206 =>
       S.b (bld [(.int .i64 0), (.string ⟨#[]⟩)] [(0, 1, (.int .i64 1)), (1, 1, (.string ⟨#[97]⟩))] H206) fun x103_207 H208 =>
       S.b (bldS 2 1 [(.int .i64 0), (.string ⟨#[]⟩)] [(0, 2, x103_207)] H208) fun x104_209 H210 =>
       S.b (app 2 24 x102_205 x104_209 H210) fun x105_211 H212 =>
       S.b (up (fAddr 2 x6_130) H212) fun x106_213 H214 =>
       S.b (stV 1 x106_213 x105_211 H214) fun _ H215 =>
       f9_J1 S C n (f9_L1 S C n m) x1_120 x4_121 x5_122 x6_130 H215)
      (S.b (up (binB Try.prog .eql 3 x5_122 (.int .i64 3)) H202) fun x108_216 H217 =>
       S.i x108_216
       (S.b (up (fAddr 1 x6_130) H217) fun x109_218 H219 =>
        S.b (ldC x109_218 H219) fun x110_220 H221 =>
        S.b (up (iAddrS 2 x110_220 (.int .i64 1)) H221) fun x111_222 H223 =>
        S.b (up (fAddr 0 x111_222) H223) fun x112_224 H225 =>
        S.b (stV 1 x112_224 (.int .i64 1) H225) fun _ H226 =>
        f9_J1 S C n (f9_L1 S C n m) x1_120 x4_121 x5_122 x6_130 H226)
       (S.b (up (binB Try.prog .eql 3 x5_122 (.int .i64 4)) H217) fun x114_227 H228 =>
        S.i x114_227
        (S.b (up (fAddr 1 x6_130) H228) fun x115_229 H230 =>
         S.b (ldC x115_229 H230) fun x116_231 H232 =>
         S.b (up (iAddrS 2 x116_231 (.int .i64 1)) H232) fun x117_233 H234 =>
         S.b (up (fAddr 1 x117_233) H234) fun x118_235 H236 =>
         S.b (stV 1 x118_235 (.int .i64 (-1)) H236) fun _ H237 =>
         f9_J1 S C n (f9_L1 S C n m) x1_120 x4_121 x5_122 x6_130 H237)
        (S.b (up (binB Try.prog .eql 3 x5_122 (.int .i64 5)) H228) fun x120_238 H239 =>
         S.i x120_238
         (S.b (up (fAddr 1 x6_130) H239) fun x121_240 H241 =>
          S.b (ldC x121_240 H241) fun x122_242 H243 =>
          S.b (up (slcS 2 x122_242 none (some (.int .i64 1)) none) H243) fun x123_244 H245 =>
          S.b (up (fAddr 1 x6_130) H245) fun x124_246 H247 =>
          S.b (stV 1 x124_246 x123_244 H247) fun _ H248 =>
          f9_J1 S C n (f9_L1 S C n m) x1_120 x4_121 x5_122 x6_130 H248)
         (S.b (up (binB Try.prog .eql 3 x5_122 (.int .i64 6)) H239) fun x126_249 H250 =>
          S.i x126_249
          (S.b (up (fAddr 4 x6_130) H250) fun x127_251 H252 =>
           S.b (ldC x127_251 H252) fun x128_253 H254 =>
           S.b (up (iAddrS 4 x128_253 (.int .i64 1)) H254) fun x129_255 H256 =>
           S.b (up (fAddr 0 x129_255) H256) fun x130_257 H258 =>
           S.b (stV 1 x130_257 (.int .i64 9007199254740992) H258) fun _ H259 =>
           f9_J1 S C n (f9_L1 S C n m) x1_120 x4_121 x5_122 x6_130 H259)
          (S.b (up (binB Try.prog .eql 3 x5_122 (.int .i64 7)) H250) fun x132_260 H261 =>
           S.i x132_260
           (S.b (up (fAddr 4 x6_130) H261) fun x133_262 H263 =>
            S.b (ldC x133_262 H263) fun x134_264 H265 =>
            S.b (up (iAddrS 4 x134_264 (.int .i64 1)) H265) fun x135_266 H267 =>
            S.b (up (fAddr 1 x135_266) H267) fun x136_268 H269 =>
            S.b (stV 1 x136_268 (.slice none 0 0) H269) fun _ H270 =>
            f9_J1 S C n (f9_L1 S C n m) x1_120 x4_121 x5_122 x6_130 H270)
           (S.b (up (binB Try.prog .eql 3 x5_122 (.int .i64 8)) H261) fun x138_271 H272 =>
            S.i x138_271
            (S.b (up (fAddr 4 x6_130) H272) fun x139_273 H274 =>
             S.b (ldC x139_273 H274) fun x140_275 H276 =>
             S.b (up (iAddrS 4 x140_275 (.int .i64 1)) H276) fun x141_277 H278 =>
             S.b (up (fAddr 2 x141_277) H278) fun x142_279 H280 =>
             S.b (up (fAddr 1 x142_279) H280) fun x143_281 H282 =>
             S.b (stV 1 x143_281 (.int .i64 2) H282) fun _ H283 =>
             f9_J1 S C n (f9_L1 S C n m) x1_120 x4_121 x5_122 x6_130 H283)
            (S.b (up (binB Try.prog .eql 3 x5_122 (.int .i64 9)) H272) fun x145_284 H285 =>
             S.i x145_284
             (S.b (up (fAddr 4 x6_130) H285) fun x146_286 H287 =>
              S.b (stV 1 x146_286 (.slice none 0 0) H287) fun _ H288 =>
              f9_J1 S C n (f9_L1 S C n m) x1_120 x4_121 x5_122 x6_130 H288)
             (S.b (up (binB Try.prog .eql 3 x5_122 (.int .i64 10)) H285) fun x148_289 H290 =>
              S.i x148_289
              (S.b (up (fAddr 2 x6_130) H290) fun x149_291 H292 =>
               S.b (ldC x149_291 H292) fun x150_293 H294 =>
               S.b (bld [(.int .i64 0), (.string ⟨#[]⟩)] [(0, 1, (.int .i64 (-1)))] H294) fun x151_295 H296 =>
               S.b (bldS 2 1 [(.int .i64 0), (.string ⟨#[]⟩)] [(0, 2, x151_295)] H296) fun x152_297 H298 =>
               S.b (app 2 24 x150_293 x152_297 H298) fun x153_299 H300 =>
               S.b (up (fAddr 2 x6_130) H300) fun x154_301 H302 =>
               S.b (stV 1 x154_301 x153_299 H302) fun _ H303 =>
               f9_J1 S C n (f9_L1 S C n m) x1_120 x4_121 x5_122 x6_130 H303)
              (S.b (up (fAddr 2 x6_130) H290) fun x82_304 H305 =>
               S.b (ldC x82_304 H305) fun x83_306 H307 =>
               S.b (bld [(.int .i64 0), (.string ⟨#[]⟩)] [(1, 1, x1_120)] H307) fun x85_308 H309 =>
               S.b (bldS 2 1 [(.int .i64 0), (.string ⟨#[]⟩)] [(0, 2, x85_308)] H309) fun x86_310 H311 =>
               S.b (app 2 24 x83_306 x86_310 H311) fun x87_312 H313 =>
               S.b (up (fAddr 2 x6_130) H313) fun x88_314 H315 =>
               S.b (stV 1 x88_314 x87_312 H315) fun _ H316 =>
               f9_J1 S C n (f9_L1 S C n m) x1_120 x4_121 x5_122 x6_130 H316))))))))))))
   (f9_L2 S C n n (.int .i64 0) H125)

noncomputable def f9_L1G (S : Seam (Value × Heap)) (C : CallF) (n : Nat) (R1 : Value→Value→Value→Heap→Option (Value × Heap)) (P2 : Env → Heap → Option (Value × Heap)) (env : Env) (H : Heap) : Option (Value × Heap) :=
 S.b (up (binB Try.prog .lss 3 (env 5) (.int .i64 12)) H) fun x76_355 H356 =>
 S.i x76_355
 (S.b (ldA 5 (env 4) H356) fun x79_357 H358 =>
  S.b (C 20 [x79_357] H358) fun x80_359 H360 =>
  S.b (newV [(.slice none 0 0), (.slice none 0 0), (.slice none 0 0), (.slice none 0 0), (.slice none 0 0)] H360) fun x6_361 H362 =>
  S.b (stV 5 x6_361 x80_359 H362) fun u363 H364 =>
  S.b (up (binB Try.prog .eql 3 (env 5) (.int .i64 0)) H364) fun x90_365 H366 =>
  S.i x90_365
  (S.b (up (fAddr 0 x6_361) H366) fun x91_367 H368 =>
   S.b (ldC x91_367 H368) fun x92_369 H370 =>
   S.b (up (iAddrS 1 x92_369 (.int .i64 1)) H370) fun x93_371 H372 =>
   S.b (stV 1 x93_371 (.string ⟨#[109]⟩) H372) fun u373 H374 =>
   S.b (ldA 5 x6_361 H374) fun x155_375 H376 =>
   S.b (C 6 [x155_375] H376) fun x156_377 H378 =>
   S.b (up (unB .not x156_377) H378) fun x157_379 H380 =>
   S.b (gd (wd x157_379 false) (ldA 5 (env 4) H380) H380) fun x159_381 H382 =>
   S.b (gd (wd x157_379 false) (ldA 5 x6_361 H382) H382) fun x160_383 H384 =>
   S.b (gd (wd x157_379 false) (C 7 [x159_381, x160_383] H384) H384) fun x161_385 H386 =>
   S.b (gd (wd x157_379 false) (up (unB .not x161_385) H386) H386) fun x162_387 H388 =>
   S.b (pickV x157_379 (.bool true) x162_387 H388) fun x163_389 H390 =>
   S.b (gd (wd x163_389 false) (ldA 5 x6_361 H390) H390) fun x165_391 H392 =>
   S.b (gd (wd x163_389 false) (ldA 5 (env 4) H392) H392) fun x166_393 H394 =>
   S.b (gd (wd x163_389 false) (C 7 [x165_391, x166_393] H394) H394) fun x167_395 H396 =>
   S.b (gd (wd x163_389 false) (up (unB .not x167_395) H396) H396) fun x168_397 H398 =>
   S.b (pickV x163_389 (.bool true) x168_397 H398) fun x169_399 H400 =>
   S.b (gd (wd x169_399 false) (ldA 5 (env 4) H400) H400) fun x171_401 H402 =>
   S.b (gd (wd x169_399 false) (ldA 5 x6_361 H402) H402) fun x172_403 H404 =>
   S.b (gd (wd x169_399 false) (bld [(.slice none 0 0), (.slice none 0 0), (.slice none 0 0), (.slice none 0 0), (.slice none 0 0), (.slice none 0 0), (.slice none 0 0), (.slice none 0 0), (.slice none 0 0), (.slice none 0 0)] [(0, 5, x171_401), (5, 5, x172_403)] H404) H404) fun x173_405 H406 =>
   S.b (gd (wd x169_399 false) (C 8 [(.slice none 0 0), (.slice none 0 0), x173_405] H406) H406) fun x174_407 H408 =>
   S.b (gd (wd x169_399 false) (up (unB .not x174_407) H408) H408) fun x175_409 H410 =>
   S.b (pickV x169_399 (.bool true) x175_409 H410) fun x176_411 H412 =>
   S.i x176_411
   (some ((.bool false), H412))
   (S.b (up (binB Try.prog .add 3 (env 5) (.int .i64 1)) H412) fun x78_413 H414 =>
    R1 (env 1) (env 4) x78_413 H414))
  (S.b (up (binB Try.prog .eql 3 (env 5) (.int .i64 1)) H366) fun x95_415 H416 =>
   S.i x95_415
   (S.b (up (fAddr 3 x6_361) H416) fun x96_417 H418 =>
    S.b (ldC x96_417 H418) fun x97_419 H420 =>
    S.b (up (iAddrS 1 x97_419 (.int .i64 1)) H420) fun x98_421 H422 =>
    S.b (stV 1 x98_421 (.string ⟨#[102]⟩) H422) fun u423 H424 =>
    S.b (ldA 5 x6_361 H424) fun x155_425 H426 =>
    S.b (C 6 [x155_425] H426) fun x156_427 H428 =>
    S.b (up (unB .not x156_427) H428) fun x157_429 H430 =>
    S.b (gd (wd x157_429 false) (ldA 5 (env 4) H430) H430) fun x159_431 H432 =>
    S.b (gd (wd x157_429 false) (ldA 5 x6_361 H432) H432) fun x160_433 H434 =>
    S.b (gd (wd x157_429 false) (C 7 [x159_431, x160_433] H434) H434) fun x161_435 H436 =>
    S.b (gd (wd x157_429 false) (up (unB .not x161_435) H436) H436) fun x162_437 H438 =>
    S.b (pickV x157_429 (.bool true) x162_437 H438) fun x163_439 H440 =>
    S.b (gd (wd x163_439 false) (ldA 5 x6_361 H440) H440) fun x165_441 H442 =>
    S.b (gd (wd x163_439 false) (ldA 5 (env 4) H442) H442) fun x166_443 H444 =>
    S.b (gd (wd x163_439 false) (C 7 [x165_441, x166_443] H444) H444) fun x167_445 H446 =>
    S.b (gd (wd x163_439 false) (up (unB .not x167_445) H446) H446) fun x168_447 H448 =>
    S.b (pickV x163_439 (.bool true) x168_447 H448) fun x169_449 H450 =>
    S.b (gd (wd x169_449 false) (ldA 5 (env 4) H450) H450) fun x171_451 H452 =>
    S.b (gd (wd x169_449 false) (ldA 5 x6_361 H452) H452) fun x172_453 H454 =>
    S.b (gd (wd x169_449 false) (bld [(.slice none 0 0), (.slice none 0 0), (.slice none 0 0), (.slice none 0 0), (.slice none 0 0), (.slice none 0 0), (.slice none 0 0), (.slice none 0 0), (.slice none 0 0), (.slice none 0 0)] [(0, 5, x171_451), (5, 5, x172_453)] H454) H454) fun x173_455 H456 =>
    S.b (gd (wd x169_449 false) (C 8 [(.slice none 0 0), (.slice none 0 0), x173_455] H456) H456) fun x174_457 H458 =>
    S.b (gd (wd x169_449 false) (up (unB .not x174_457) H458) H458) fun x175_459 H460 =>
    S.b (pickV x169_449 (.bool true) x175_459 H460) fun x176_461 H462 =>
    S.i x176_461
    (some ((.bool false), H462))
    (S.b (up (binB Try.prog .add 3 (env 5) (.int .i64 1)) H462) fun x78_463 H464 =>
     R1 (env 1) (env 4) x78_463 H464))
   (S.b (up (binB Try.prog .eql 3 (env 5) (.int .i64 2)) H416) fun x100_465 H466 =>
    S.i x100_465
    (S.b (up (fAddr 2 x6_361) H466) fun x101_467 H468 =>
     S.b (ldC x101_467 H468) fun x102_469 H470 =>
     S.b (bld [(.int .i64 0), (.string ⟨#[]⟩)] [(0, 1, (.int .i64 1)), (1, 1, (.string ⟨#[97]⟩))] H470) fun x103_471 H472 =>
     S.b (bldS 2 1 [(.int .i64 0), (.string ⟨#[]⟩)] [(0, 2, x103_471)] H472) fun x104_473 H474 =>
     S.b (app 2 24 x102_469 x104_473 H474) fun x105_475 H476 =>
     S.b (up (fAddr 2 x6_361) H476) fun x106_477 H478 =>
     S.b (stV 1 x106_477 x105_475 H478) fun u479 H480 =>
     S.b (ldA 5 x6_361 H480) fun x155_481 H482 =>
     S.b (C 6 [x155_481] H482) fun x156_483 H484 =>
     S.b (up (unB .not x156_483) H484) fun x157_485 H486 =>
     S.b (gd (wd x157_485 false) (ldA 5 (env 4) H486) H486) fun x159_487 H488 =>
     S.b (gd (wd x157_485 false) (ldA 5 x6_361 H488) H488) fun x160_489 H490 =>
     S.b (gd (wd x157_485 false) (C 7 [x159_487, x160_489] H490) H490) fun x161_491 H492 =>
     S.b (gd (wd x157_485 false) (up (unB .not x161_491) H492) H492) fun x162_493 H494 =>
     S.b (pickV x157_485 (.bool true) x162_493 H494) fun x163_495 H496 =>
     S.b (gd (wd x163_495 false) (ldA 5 x6_361 H496) H496) fun x165_497 H498 =>
     S.b (gd (wd x163_495 false) (ldA 5 (env 4) H498) H498) fun x166_499 H500 =>
     S.b (gd (wd x163_495 false) (C 7 [x165_497, x166_499] H500) H500) fun x167_501 H502 =>
     S.b (gd (wd x163_495 false) (up (unB .not x167_501) H502) H502) fun x168_503 H504 =>
     S.b (pickV x163_495 (.bool true) x168_503 H504) fun x169_505 H506 =>
     S.b (gd (wd x169_505 false) (ldA 5 (env 4) H506) H506) fun x171_507 H508 =>
     S.b (gd (wd x169_505 false) (ldA 5 x6_361 H508) H508) fun x172_509 H510 =>
     S.b (gd (wd x169_505 false) (bld [(.slice none 0 0), (.slice none 0 0), (.slice none 0 0), (.slice none 0 0), (.slice none 0 0), (.slice none 0 0), (.slice none 0 0), (.slice none 0 0), (.slice none 0 0), (.slice none 0 0)] [(0, 5, x171_507), (5, 5, x172_509)] H510) H510) fun x173_511 H512 =>
     S.b (gd (wd x169_505 false) (C 8 [(.slice none 0 0), (.slice none 0 0), x173_511] H512) H512) fun x174_513 H514 =>
     S.b (gd (wd x169_505 false) (up (unB .not x174_513) H514) H514) fun x175_515 H516 =>
     S.b (pickV x169_505 (.bool true) x175_515 H516) fun x176_517 H518 =>
     S.i x176_517
     (some ((.bool false), H518))
     (S.b (up (binB Try.prog .add 3 (env 5) (.int .i64 1)) H518) fun x78_519 H520 =>
      R1 (env 1) (env 4) x78_519 H520))
    (S.b (up (binB Try.prog .eql 3 (env 5) (.int .i64 3)) H466) fun x108_521 H522 =>
     S.i x108_521
     (S.b (up (fAddr 1 x6_361) H522) fun x109_523 H524 =>
      S.b (ldC x109_523 H524) fun x110_525 H526 =>
      S.b (up (iAddrS 2 x110_525 (.int .i64 1)) H526) fun x111_527 H528 =>
      S.b (up (fAddr 0 x111_527) H528) fun x112_529 H530 =>
      S.b (stV 1 x112_529 (.int .i64 1) H530) fun u531 H532 =>
      S.b (ldA 5 x6_361 H532) fun x155_533 H534 =>
      S.b (C 6 [x155_533] H534) fun x156_535 H536 =>
      S.b (up (unB .not x156_535) H536) fun x157_537 H538 =>
      S.b (gd (wd x157_537 false) (ldA 5 (env 4) H538) H538) fun x159_539 H540 =>
      S.b (gd (wd x157_537 false) (ldA 5 x6_361 H540) H540) fun x160_541 H542 =>
      S.b (gd (wd x157_537 false) (C 7 [x159_539, x160_541] H542) H542) fun x161_543 H544 =>
      S.b (gd (wd x157_537 false) (up (unB .not x161_543) H544) H544) fun x162_545 H546 =>
      S.b (pickV x157_537 (.bool true) x162_545 H546) fun x163_547 H548 =>
      S.b (gd (wd x163_547 false) (ldA 5 x6_361 H548) H548) fun x165_549 H550 =>
      S.b (gd (wd x163_547 false) (ldA 5 (env 4) H550) H550) fun x166_551 H552 =>
      S.b (gd (wd x163_547 false) (C 7 [x165_549, x166_551] H552) H552) fun x167_553 H554 =>
      S.b (gd (wd x163_547 false) (up (unB .not x167_553) H554) H554) fun x168_555 H556 =>
      S.b (pickV x163_547 (.bool true) x168_555 H556) fun x169_557 H558 =>
      S.b (gd (wd x169_557 false) (ldA 5 (env 4) H558) H558) fun x171_559 H560 =>
      S.b (gd (wd x169_557 false) (ldA 5 x6_361 H560) H560) fun x172_561 H562 =>
      S.b (gd (wd x169_557 false) (bld [(.slice none 0 0), (.slice none 0 0), (.slice none 0 0), (.slice none 0 0), (.slice none 0 0), (.slice none 0 0), (.slice none 0 0), (.slice none 0 0), (.slice none 0 0), (.slice none 0 0)] [(0, 5, x171_559), (5, 5, x172_561)] H562) H562) fun x173_563 H564 =>
      S.b (gd (wd x169_557 false) (C 8 [(.slice none 0 0), (.slice none 0 0), x173_563] H564) H564) fun x174_565 H566 =>
      S.b (gd (wd x169_557 false) (up (unB .not x174_565) H566) H566) fun x175_567 H568 =>
      S.b (pickV x169_557 (.bool true) x175_567 H568) fun x176_569 H570 =>
      S.i x176_569
      (some ((.bool false), H570))
      (S.b (up (binB Try.prog .add 3 (env 5) (.int .i64 1)) H570) fun x78_571 H572 =>
       R1 (env 1) (env 4) x78_571 H572))
     (S.b (up (binB Try.prog .eql 3 (env 5) (.int .i64 4)) H522) fun x114_573 H574 =>
      S.i x114_573
      (S.b (up (fAddr 1 x6_361) H574) fun x115_575 H576 =>
       S.b (ldC x115_575 H576) fun x116_577 H578 =>
       S.b (up (iAddrS 2 x116_577 (.int .i64 1)) H578) fun x117_579 H580 =>
       S.b (up (fAddr 1 x117_579) H580) fun x118_581 H582 =>
       S.b (stV 1 x118_581 (.int .i64 (-1)) H582) fun u583 H584 =>
       S.b (ldA 5 x6_361 H584) fun x155_585 H586 =>
       S.b (C 6 [x155_585] H586) fun x156_587 H588 =>
       S.b (up (unB .not x156_587) H588) fun x157_589 H590 =>
       S.b (gd (wd x157_589 false) (ldA 5 (env 4) H590) H590) fun x159_591 H592 =>
       S.b (gd (wd x157_589 false) (ldA 5 x6_361 H592) H592) fun x160_593 H594 =>
       S.b (gd (wd x157_589 false) (C 7 [x159_591, x160_593] H594) H594) fun x161_595 H596 =>
       S.b (gd (wd x157_589 false) (up (unB .not x161_595) H596) H596) fun x162_597 H598 =>
       S.b (pickV x157_589 (.bool true) x162_597 H598) fun x163_599 H600 =>
       S.b (gd (wd x163_599 false) (ldA 5 x6_361 H600) H600) fun x165_601 H602 =>
       S.b (gd (wd x163_599 false) (ldA 5 (env 4) H602) H602) fun x166_603 H604 =>
       S.b (gd (wd x163_599 false) (C 7 [x165_601, x166_603] H604) H604) fun x167_605 H606 =>
       S.b (gd (wd x163_599 false) (up (unB .not x167_605) H606) H606) fun x168_607 H608 =>
       S.b (pickV x163_599 (.bool true) x168_607 H608) fun x169_609 H610 =>
       S.b (gd (wd x169_609 false) (ldA 5 (env 4) H610) H610) fun x171_611 H612 =>
       S.b (gd (wd x169_609 false) (ldA 5 x6_361 H612) H612) fun x172_613 H614 =>
       S.b (gd (wd x169_609 false) (bld [(.slice none 0 0), (.slice none 0 0), (.slice none 0 0), (.slice none 0 0), (.slice none 0 0), (.slice none 0 0), (.slice none 0 0), (.slice none 0 0), (.slice none 0 0), (.slice none 0 0)] [(0, 5, x171_611), (5, 5, x172_613)] H614) H614) fun x173_615 H616 =>
       S.b (gd (wd x169_609 false) (C 8 [(.slice none 0 0), (.slice none 0 0), x173_615] H616) H616) fun x174_617 H618 =>
       S.b (gd (wd x169_609 false) (up (unB .not x174_617) H618) H618) fun x175_619 H620 =>
       S.b (pickV x169_609 (.bool true) x175_619 H620) fun x176_621 H622 =>
       S.i x176_621
       (some ((.bool false), H622))
       (S.b (up (binB Try.prog .add 3 (env 5) (.int .i64 1)) H622) fun x78_623 H624 =>
        R1 (env 1) (env 4) x78_623 H624))
      (S.b (up (binB Try.prog .eql 3 (env 5) (.int .i64 5)) H574) fun x120_625 H626 =>
       S.i x120_625
       (S.b (up (fAddr 1 x6_361) H626) fun x121_627 H628 =>
        S.b (ldC x121_627 H628) fun x122_629 H630 =>
        S.b (up (slcS 2 x122_629 none (some (.int .i64 1)) none) H630) fun x123_631 H632 =>
        S.b (up (fAddr 1 x6_361) H632) fun x124_633 H634 =>
        S.b (stV 1 x124_633 x123_631 H634) fun u635 H636 =>
        S.b (ldA 5 x6_361 H636) fun x155_637 H638 =>
        S.b (C 6 [x155_637] H638) fun x156_639 H640 =>
        S.b (up (unB .not x156_639) H640) fun x157_641 H642 =>
        S.b (gd (wd x157_641 false) (ldA 5 (env 4) H642) H642) fun x159_643 H644 =>
        S.b (gd (wd x157_641 false) (ldA 5 x6_361 H644) H644) fun x160_645 H646 =>
        S.b (gd (wd x157_641 false) (C 7 [x159_643, x160_645] H646) H646) fun x161_647 H648 =>
        S.b (gd (wd x157_641 false) (up (unB .not x161_647) H648) H648) fun x162_649 H650 =>
        S.b (pickV x157_641 (.bool true) x162_649 H650) fun x163_651 H652 =>
        S.b (gd (wd x163_651 false) (ldA 5 x6_361 H652) H652) fun x165_653 H654 =>
        S.b (gd (wd x163_651 false) (ldA 5 (env 4) H654) H654) fun x166_655 H656 =>
        S.b (gd (wd x163_651 false) (C 7 [x165_653, x166_655] H656) H656) fun x167_657 H658 =>
        S.b (gd (wd x163_651 false) (up (unB .not x167_657) H658) H658) fun x168_659 H660 =>
        S.b (pickV x163_651 (.bool true) x168_659 H660) fun x169_661 H662 =>
        S.b (gd (wd x169_661 false) (ldA 5 (env 4) H662) H662) fun x171_663 H664 =>
        S.b (gd (wd x169_661 false) (ldA 5 x6_361 H664) H664) fun x172_665 H666 =>
        S.b (gd (wd x169_661 false) (bld [(.slice none 0 0), (.slice none 0 0), (.slice none 0 0), (.slice none 0 0), (.slice none 0 0), (.slice none 0 0), (.slice none 0 0), (.slice none 0 0), (.slice none 0 0), (.slice none 0 0)] [(0, 5, x171_663), (5, 5, x172_665)] H666) H666) fun x173_667 H668 =>
        S.b (gd (wd x169_661 false) (C 8 [(.slice none 0 0), (.slice none 0 0), x173_667] H668) H668) fun x174_669 H670 =>
        S.b (gd (wd x169_661 false) (up (unB .not x174_669) H670) H670) fun x175_671 H672 =>
        S.b (pickV x169_661 (.bool true) x175_671 H672) fun x176_673 H674 =>
        S.i x176_673
        (some ((.bool false), H674))
        (S.b (up (binB Try.prog .add 3 (env 5) (.int .i64 1)) H674) fun x78_675 H676 =>
         R1 (env 1) (env 4) x78_675 H676))
       (S.b (up (binB Try.prog .eql 3 (env 5) (.int .i64 6)) H626) fun x126_677 H678 =>
        S.i x126_677
        (S.b (up (fAddr 4 x6_361) H678) fun x127_679 H680 =>
         S.b (ldC x127_679 H680) fun x128_681 H682 =>
         S.b (up (iAddrS 4 x128_681 (.int .i64 1)) H682) fun x129_683 H684 =>
         S.b (up (fAddr 0 x129_683) H684) fun x130_685 H686 =>
         S.b (stV 1 x130_685 (.int .i64 9007199254740992) H686) fun u687 H688 =>
         S.b (ldA 5 x6_361 H688) fun x155_689 H690 =>
         S.b (C 6 [x155_689] H690) fun x156_691 H692 =>
         S.b (up (unB .not x156_691) H692) fun x157_693 H694 =>
         S.b (gd (wd x157_693 false) (ldA 5 (env 4) H694) H694) fun x159_695 H696 =>
         S.b (gd (wd x157_693 false) (ldA 5 x6_361 H696) H696) fun x160_697 H698 =>
         S.b (gd (wd x157_693 false) (C 7 [x159_695, x160_697] H698) H698) fun x161_699 H700 =>
         S.b (gd (wd x157_693 false) (up (unB .not x161_699) H700) H700) fun x162_701 H702 =>
         S.b (pickV x157_693 (.bool true) x162_701 H702) fun x163_703 H704 =>
         S.b (gd (wd x163_703 false) (ldA 5 x6_361 H704) H704) fun x165_705 H706 =>
         S.b (gd (wd x163_703 false) (ldA 5 (env 4) H706) H706) fun x166_707 H708 =>
         S.b (gd (wd x163_703 false) (C 7 [x165_705, x166_707] H708) H708) fun x167_709 H710 =>
         S.b (gd (wd x163_703 false) (up (unB .not x167_709) H710) H710) fun x168_711 H712 =>
         S.b (pickV x163_703 (.bool true) x168_711 H712) fun x169_713 H714 =>
         S.b (gd (wd x169_713 false) (ldA 5 (env 4) H714) H714) fun x171_715 H716 =>
         S.b (gd (wd x169_713 false) (ldA 5 x6_361 H716) H716) fun x172_717 H718 =>
         S.b (gd (wd x169_713 false) (bld [(.slice none 0 0), (.slice none 0 0), (.slice none 0 0), (.slice none 0 0), (.slice none 0 0), (.slice none 0 0), (.slice none 0 0), (.slice none 0 0), (.slice none 0 0), (.slice none 0 0)] [(0, 5, x171_715), (5, 5, x172_717)] H718) H718) fun x173_719 H720 =>
         S.b (gd (wd x169_713 false) (C 8 [(.slice none 0 0), (.slice none 0 0), x173_719] H720) H720) fun x174_721 H722 =>
         S.b (gd (wd x169_713 false) (up (unB .not x174_721) H722) H722) fun x175_723 H724 =>
         S.b (pickV x169_713 (.bool true) x175_723 H724) fun x176_725 H726 =>
         S.i x176_725
         (some ((.bool false), H726))
         (S.b (up (binB Try.prog .add 3 (env 5) (.int .i64 1)) H726) fun x78_727 H728 =>
          R1 (env 1) (env 4) x78_727 H728))
        (S.b (up (binB Try.prog .eql 3 (env 5) (.int .i64 7)) H678) fun x132_729 H730 =>
         S.i x132_729
         (S.b (up (fAddr 4 x6_361) H730) fun x133_731 H732 =>
          S.b (ldC x133_731 H732) fun x134_733 H734 =>
          S.b (up (iAddrS 4 x134_733 (.int .i64 1)) H734) fun x135_735 H736 =>
          S.b (up (fAddr 1 x135_735) H736) fun x136_737 H738 =>
          S.b (stV 1 x136_737 (.slice none 0 0) H738) fun u739 H740 =>
          S.b (ldA 5 x6_361 H740) fun x155_741 H742 =>
          S.b (C 6 [x155_741] H742) fun x156_743 H744 =>
          S.b (up (unB .not x156_743) H744) fun x157_745 H746 =>
          S.b (gd (wd x157_745 false) (ldA 5 (env 4) H746) H746) fun x159_747 H748 =>
          S.b (gd (wd x157_745 false) (ldA 5 x6_361 H748) H748) fun x160_749 H750 =>
          S.b (gd (wd x157_745 false) (C 7 [x159_747, x160_749] H750) H750) fun x161_751 H752 =>
          S.b (gd (wd x157_745 false) (up (unB .not x161_751) H752) H752) fun x162_753 H754 =>
          S.b (pickV x157_745 (.bool true) x162_753 H754) fun x163_755 H756 =>
          S.b (gd (wd x163_755 false) (ldA 5 x6_361 H756) H756) fun x165_757 H758 =>
          S.b (gd (wd x163_755 false) (ldA 5 (env 4) H758) H758) fun x166_759 H760 =>
          S.b (gd (wd x163_755 false) (C 7 [x165_757, x166_759] H760) H760) fun x167_761 H762 =>
          S.b (gd (wd x163_755 false) (up (unB .not x167_761) H762) H762) fun x168_763 H764 =>
          S.b (pickV x163_755 (.bool true) x168_763 H764) fun x169_765 H766 =>
          S.b (gd (wd x169_765 false) (ldA 5 (env 4) H766) H766) fun x171_767 H768 =>
          S.b (gd (wd x169_765 false) (ldA 5 x6_361 H768) H768) fun x172_769 H770 =>
          S.b (gd (wd x169_765 false) (bld [(.slice none 0 0), (.slice none 0 0), (.slice none 0 0), (.slice none 0 0), (.slice none 0 0), (.slice none 0 0), (.slice none 0 0), (.slice none 0 0), (.slice none 0 0), (.slice none 0 0)] [(0, 5, x171_767), (5, 5, x172_769)] H770) H770) fun x173_771 H772 =>
          S.b (gd (wd x169_765 false) (C 8 [(.slice none 0 0), (.slice none 0 0), x173_771] H772) H772) fun x174_773 H774 =>
          S.b (gd (wd x169_765 false) (up (unB .not x174_773) H774) H774) fun x175_775 H776 =>
          S.b (pickV x169_765 (.bool true) x175_775 H776) fun x176_777 H778 =>
          S.i x176_777
          (some ((.bool false), H778))
          (S.b (up (binB Try.prog .add 3 (env 5) (.int .i64 1)) H778) fun x78_779 H780 =>
           R1 (env 1) (env 4) x78_779 H780))
         (S.b (up (binB Try.prog .eql 3 (env 5) (.int .i64 8)) H730) fun x138_781 H782 =>
          S.i x138_781
          (S.b (up (fAddr 4 x6_361) H782) fun x139_783 H784 =>
           S.b (ldC x139_783 H784) fun x140_785 H786 =>
           S.b (up (iAddrS 4 x140_785 (.int .i64 1)) H786) fun x141_787 H788 =>
           S.b (up (fAddr 2 x141_787) H788) fun x142_789 H790 =>
           S.b (up (fAddr 1 x142_789) H790) fun x143_791 H792 =>
           S.b (stV 1 x143_791 (.int .i64 2) H792) fun u793 H794 =>
           S.b (ldA 5 x6_361 H794) fun x155_795 H796 =>
           S.b (C 6 [x155_795] H796) fun x156_797 H798 =>
           S.b (up (unB .not x156_797) H798) fun x157_799 H800 =>
           S.b (gd (wd x157_799 false) (ldA 5 (env 4) H800) H800) fun x159_801 H802 =>
           S.b (gd (wd x157_799 false) (ldA 5 x6_361 H802) H802) fun x160_803 H804 =>
           S.b (gd (wd x157_799 false) (C 7 [x159_801, x160_803] H804) H804) fun x161_805 H806 =>
           S.b (gd (wd x157_799 false) (up (unB .not x161_805) H806) H806) fun x162_807 H808 =>
           S.b (pickV x157_799 (.bool true) x162_807 H808) fun x163_809 H810 =>
           S.b (gd (wd x163_809 false) (ldA 5 x6_361 H810) H810) fun x165_811 H812 =>
           S.b (gd (wd x163_809 false) (ldA 5 (env 4) H812) H812) fun x166_813 H814 =>
           S.b (gd (wd x163_809 false) (C 7 [x165_811, x166_813] H814) H814) fun x167_815 H816 =>
           S.b (gd (wd x163_809 false) (up (unB .not x167_815) H816) H816) fun x168_817 H818 =>
           S.b (pickV x163_809 (.bool true) x168_817 H818) fun x169_819 H820 =>
           S.b (gd (wd x169_819 false) (ldA 5 (env 4) H820) H820) fun x171_821 H822 =>
           S.b (gd (wd x169_819 false) (ldA 5 x6_361 H822) H822) fun x172_823 H824 =>
           S.b (gd (wd x169_819 false) (bld [(.slice none 0 0), (.slice none 0 0), (.slice none 0 0), (.slice none 0 0), (.slice none 0 0), (.slice none 0 0), (.slice none 0 0), (.slice none 0 0), (.slice none 0 0), (.slice none 0 0)] [(0, 5, x171_821), (5, 5, x172_823)] H824) H824) fun x173_825 H826 =>
           S.b (gd (wd x169_819 false) (C 8 [(.slice none 0 0), (.slice none 0 0), x173_825] H826) H826) fun x174_827 H828 =>
           S.b (gd (wd x169_819 false) (up (unB .not x174_827) H828) H828) fun x175_829 H830 =>
           S.b (pickV x169_819 (.bool true) x175_829 H830) fun x176_831 H832 =>
           S.i x176_831
           (some ((.bool false), H832))
           (S.b (up (binB Try.prog .add 3 (env 5) (.int .i64 1)) H832) fun x78_833 H834 =>
            R1 (env 1) (env 4) x78_833 H834))
          (S.b (up (binB Try.prog .eql 3 (env 5) (.int .i64 9)) H782) fun x145_835 H836 =>
           S.i x145_835
           (S.b (up (fAddr 4 x6_361) H836) fun x146_837 H838 =>
            S.b (stV 1 x146_837 (.slice none 0 0) H838) fun u839 H840 =>
            S.b (ldA 5 x6_361 H840) fun x155_841 H842 =>
            S.b (C 6 [x155_841] H842) fun x156_843 H844 =>
            S.b (up (unB .not x156_843) H844) fun x157_845 H846 =>
            S.b (gd (wd x157_845 false) (ldA 5 (env 4) H846) H846) fun x159_847 H848 =>
            S.b (gd (wd x157_845 false) (ldA 5 x6_361 H848) H848) fun x160_849 H850 =>
            S.b (gd (wd x157_845 false) (C 7 [x159_847, x160_849] H850) H850) fun x161_851 H852 =>
            S.b (gd (wd x157_845 false) (up (unB .not x161_851) H852) H852) fun x162_853 H854 =>
            S.b (pickV x157_845 (.bool true) x162_853 H854) fun x163_855 H856 =>
            S.b (gd (wd x163_855 false) (ldA 5 x6_361 H856) H856) fun x165_857 H858 =>
            S.b (gd (wd x163_855 false) (ldA 5 (env 4) H858) H858) fun x166_859 H860 =>
            S.b (gd (wd x163_855 false) (C 7 [x165_857, x166_859] H860) H860) fun x167_861 H862 =>
            S.b (gd (wd x163_855 false) (up (unB .not x167_861) H862) H862) fun x168_863 H864 =>
            S.b (pickV x163_855 (.bool true) x168_863 H864) fun x169_865 H866 =>
            S.b (gd (wd x169_865 false) (ldA 5 (env 4) H866) H866) fun x171_867 H868 =>
            S.b (gd (wd x169_865 false) (ldA 5 x6_361 H868) H868) fun x172_869 H870 =>
            S.b (gd (wd x169_865 false) (bld [(.slice none 0 0), (.slice none 0 0), (.slice none 0 0), (.slice none 0 0), (.slice none 0 0), (.slice none 0 0), (.slice none 0 0), (.slice none 0 0), (.slice none 0 0), (.slice none 0 0)] [(0, 5, x171_867), (5, 5, x172_869)] H870) H870) fun x173_871 H872 =>
            S.b (gd (wd x169_865 false) (C 8 [(.slice none 0 0), (.slice none 0 0), x173_871] H872) H872) fun x174_873 H874 =>
            S.b (gd (wd x169_865 false) (up (unB .not x174_873) H874) H874) fun x175_875 H876 =>
            S.b (pickV x169_865 (.bool true) x175_875 H876) fun x176_877 H878 =>
            S.i x176_877
            (some ((.bool false), H878))
            (S.b (up (binB Try.prog .add 3 (env 5) (.int .i64 1)) H878) fun x78_879 H880 =>
             R1 (env 1) (env 4) x78_879 H880))
           (S.b (up (binB Try.prog .eql 3 (env 5) (.int .i64 10)) H836) fun x148_881 H882 =>
            S.i x148_881
            (S.b (up (fAddr 2 x6_361) H882) fun x149_883 H884 =>
             S.b (ldC x149_883 H884) fun x150_885 H886 =>
             S.b (bld [(.int .i64 0), (.string ⟨#[]⟩)] [(0, 1, (.int .i64 (-1)))] H886) fun x151_887 H888 =>
             S.b (bldS 2 1 [(.int .i64 0), (.string ⟨#[]⟩)] [(0, 2, x151_887)] H888) fun x152_889 H890 =>
             S.b (app 2 24 x150_885 x152_889 H890) fun x153_891 H892 =>
             S.b (up (fAddr 2 x6_361) H892) fun x154_893 H894 =>
             S.b (stV 1 x154_893 x153_891 H894) fun u895 H896 =>
             S.b (ldA 5 x6_361 H896) fun x155_897 H898 =>
             S.b (C 6 [x155_897] H898) fun x156_899 H900 =>
             S.b (up (unB .not x156_899) H900) fun x157_901 H902 =>
             S.b (gd (wd x157_901 false) (ldA 5 (env 4) H902) H902) fun x159_903 H904 =>
             S.b (gd (wd x157_901 false) (ldA 5 x6_361 H904) H904) fun x160_905 H906 =>
             S.b (gd (wd x157_901 false) (C 7 [x159_903, x160_905] H906) H906) fun x161_907 H908 =>
             S.b (gd (wd x157_901 false) (up (unB .not x161_907) H908) H908) fun x162_909 H910 =>
             S.b (pickV x157_901 (.bool true) x162_909 H910) fun x163_911 H912 =>
             S.b (gd (wd x163_911 false) (ldA 5 x6_361 H912) H912) fun x165_913 H914 =>
             S.b (gd (wd x163_911 false) (ldA 5 (env 4) H914) H914) fun x166_915 H916 =>
             S.b (gd (wd x163_911 false) (C 7 [x165_913, x166_915] H916) H916) fun x167_917 H918 =>
             S.b (gd (wd x163_911 false) (up (unB .not x167_917) H918) H918) fun x168_919 H920 =>
             S.b (pickV x163_911 (.bool true) x168_919 H920) fun x169_921 H922 =>
             S.b (gd (wd x169_921 false) (ldA 5 (env 4) H922) H922) fun x171_923 H924 =>
             S.b (gd (wd x169_921 false) (ldA 5 x6_361 H924) H924) fun x172_925 H926 =>
             S.b (gd (wd x169_921 false) (bld [(.slice none 0 0), (.slice none 0 0), (.slice none 0 0), (.slice none 0 0), (.slice none 0 0), (.slice none 0 0), (.slice none 0 0), (.slice none 0 0), (.slice none 0 0), (.slice none 0 0)] [(0, 5, x171_923), (5, 5, x172_925)] H926) H926) fun x173_927 H928 =>
             S.b (gd (wd x169_921 false) (C 8 [(.slice none 0 0), (.slice none 0 0), x173_927] H928) H928) fun x174_929 H930 =>
             S.b (gd (wd x169_921 false) (up (unB .not x174_929) H930) H930) fun x175_931 H932 =>
             S.b (pickV x169_921 (.bool true) x175_931 H932) fun x176_933 H934 =>
             S.i x176_933
             (some ((.bool false), H934))
             (S.b (up (binB Try.prog .add 3 (env 5) (.int .i64 1)) H934) fun x78_935 H936 =>
              R1 (env 1) (env 4) x78_935 H936))
            (S.b (up (fAddr 2 x6_361) H882) fun x82_937 H938 =>
             S.b (ldC x82_937 H938) fun x83_939 H940 =>
             S.b (bld [(.int .i64 0), (.string ⟨#[]⟩)] [(1, 1, (env 1))] H940) fun x85_941 H942 =>
             S.b (bldS 2 1 [(.int .i64 0), (.string ⟨#[]⟩)] [(0, 2, x85_941)] H942) fun x86_943 H944 =>
             S.b (app 2 24 x83_939 x86_943 H944) fun x87_945 H946 =>
             S.b (up (fAddr 2 x6_361) H946) fun x88_947 H948 =>
             S.b (stV 1 x88_947 x87_945 H948) fun u949 H950 =>
             S.b (ldA 5 x6_361 H950) fun x155_951 H952 =>
             S.b (C 6 [x155_951] H952) fun x156_953 H954 =>
             S.b (up (unB .not x156_953) H954) fun x157_955 H956 =>
             S.b (gd (wd x157_955 false) (ldA 5 (env 4) H956) H956) fun x159_957 H958 =>
             S.b (gd (wd x157_955 false) (ldA 5 x6_361 H958) H958) fun x160_959 H960 =>
             S.b (gd (wd x157_955 false) (C 7 [x159_957, x160_959] H960) H960) fun x161_961 H962 =>
             S.b (gd (wd x157_955 false) (up (unB .not x161_961) H962) H962) fun x162_963 H964 =>
             S.b (pickV x157_955 (.bool true) x162_963 H964) fun x163_965 H966 =>
             S.b (gd (wd x163_965 false) (ldA 5 x6_361 H966) H966) fun x165_967 H968 =>
             S.b (gd (wd x163_965 false) (ldA 5 (env 4) H968) H968) fun x166_969 H970 =>
             S.b (gd (wd x163_965 false) (C 7 [x165_967, x166_969] H970) H970) fun x167_971 H972 =>
             S.b (gd (wd x163_965 false) (up (unB .not x167_971) H972) H972) fun x168_973 H974 =>
             S.b (pickV x163_965 (.bool true) x168_973 H974) fun x169_975 H976 =>
             S.b (gd (wd x169_975 false) (ldA 5 (env 4) H976) H976) fun x171_977 H978 =>
             S.b (gd (wd x169_975 false) (ldA 5 x6_361 H978) H978) fun x172_979 H980 =>
             S.b (gd (wd x169_975 false) (bld [(.slice none 0 0), (.slice none 0 0), (.slice none 0 0), (.slice none 0 0), (.slice none 0 0), (.slice none 0 0), (.slice none 0 0), (.slice none 0 0), (.slice none 0 0), (.slice none 0 0)] [(0, 5, x171_977), (5, 5, x172_979)] H980) H980) fun x173_981 H982 =>
             S.b (gd (wd x169_975 false) (C 8 [(.slice none 0 0), (.slice none 0 0), x173_981] H982) H982) fun x174_983 H984 =>
             S.b (gd (wd x169_975 false) (up (unB .not x174_983) H984) H984) fun x175_985 H986 =>
             S.b (pickV x169_975 (.bool true) x175_985 H986) fun x176_987 H988 =>
             S.i x176_987
             (some ((.bool false), H988))
             (S.b (up (binB Try.prog .add 3 (env 5) (.int .i64 1)) H988) fun x78_989 H990 =>
              R1 (env 1) (env 4) x78_989 H990)))))))))))))
 (P2 (putE 202 (putE 202 (putE 202 env (some 75) (env 5)) (some 76) x76_355) (some 7) (.int .i64 0)) H356)

theorem f9_L1_eq (S : Seam (Value × Heap)) (C : CallF) (n : Nat) : ∀ (m : Nat) (env : Env) (H : Heap), aloopK (acodeK S Try.prog C n 202 (cAt f9_c [1, 1, 1, 1, 1, 0, 1, 0, 0])) m env H (kAt S Try.prog C n 202 f9_c [1, 1, 1, 1, 1, 0, 1, 0] (fin Try.prog Try.f9)) = f9_L1 S C n m (env 1) (env 4) (env 5) H := by
  intro m env H
  refine aloopK_eq (L := fun m env H => f9_L1 S C n m (env 1) (env 4) (env 5) H) (fun env H => rfl) (fun m env H => ?_) m env H
  have h1 : acodeK S Try.prog C n 202 (cAt f9_c [1, 1, 1, 1, 1, 0, 1, 0, 0]) env H (onNormal (fun env' H' => f9_L1 S C n m (env' 1) (env' 4) (env' 5) H') (kAt S Try.prog C n 202 f9_c [1, 1, 1, 1, 1, 0, 1, 0] (fin Try.prog Try.f9))) = f9_L1G S C n (f9_L1 S C n m) (fun env H => aloopK (acodeK S Try.prog C n 202 (cAt f9_c [1, 1, 1, 1, 1, 1, 0, 1, 0, 0])) n env H (kAt S Try.prog C n 202 f9_c [1, 1, 1, 1, 1, 1, 0, 1, 0] (fin Try.prog Try.f9))) env H := by kernel_rfl
  have e0 : (fun env H => aloopK (acodeK S Try.prog C n 202 (cAt f9_c [1, 1, 1, 1, 1, 1, 0, 1, 0, 0])) n env H (kAt S Try.prog C n 202 f9_c [1, 1, 1, 1, 1, 1, 0, 1, 0] (fin Try.prog Try.f9))) = (fun env H => f9_L2 S C n n (env 7) H) := by funext env H; exact f9_L2_eq S C n n env H
  rw [e0] at h1
  exact h1.trans (by kernel_rfl)


noncomputable def f9_L0 (S : Seam (Value × Heap)) (C : CallF) (n : Nat) : Nat → Value → Value → Value → Heap → Option (Value × Heap)
 | 0, _, _, _, _ => none
 | m + 1, x1_5, x2_6, x3_7, H8 =>
   S.b (up (lenS x2_6) H8) fun x12_9 H10 =>
   S.b (up (binB Try.prog .lss 3 x3_7 x12_9) H10) fun x13_11 H12 =>
   S.i x13_11
   (S.b (up (iAddrS 1 x2_6 x3_7) H12) fun x19_13 H14 =>
    S.c true (S.b (ldC x19_13 H14) fun x20_15 H16 =>
    S.b (up (slcStr x1_5 none (some x20_15)) H16) fun x21_17 H18 =>
    S.b (ofStr x21_17 H18) fun x22_19 H20 =>
    S.b (up (iAddrS 1 x2_6 x3_7) H20) fun x26_21 H22 =>
    S.c true (S.b (ldC x26_21 H22) fun x27_23 H24 =>
    S.b (up (slcStr x1_5 none (some x27_23)) H24) fun x28_25 H26 =>
    S.b (bldS 1 1 [(.string ⟨#[]⟩)] [(0, 1, x28_25)] H26) fun x29_27 H28 =>
    S.b (C 3 [x22_19, x29_27] H28) fun x30_29 H30 =>
    S.c true (S.b (up (unB .not x30_29) H30) fun x31_31 H32 =>
     S.b (gd (wd x31_31 false) (some (x3_7, H32)) H32) fun x33_33 H34 =>
     S.b (gd (wd x31_31 false) (cvI .u8 x33_33 H34) H34) fun x34_35 H36 =>
     S.b (gd (wd x31_31 false) (bldS 1 1 [(.int .u8 0)] [(0, 1, x34_35)] H36) H36) fun x35_37 H38 =>
     S.b (gd (wd x31_31 false) (some (x1_5, H38)) H38) fun x36_39 H40 =>
     S.b (gd (wd x31_31 false) (some (x2_6, H40)) H40) fun x37_41 H42 =>
     S.b (gd (wd x31_31 false) (some (x3_7, H42)) H42) fun x38_43 H44 =>
     S.b (gd (wd x31_31 false) (up (iAddrS 1 x37_41 x38_43) H44) H44) fun x39_45 H46 =>
     S.c (!(wd x31_31 false) || true) (S.b (gd (wd x31_31 false) (ldC x39_45 H46) H46) fun x40_47 H48 =>
     S.b (gd (wd x31_31 false) (up (binB Try.prog .quo 3 x40_47 (.int .i64 2)) H48) H48) fun x41_49 H50 =>
     S.b (gd (wd x31_31 false) (up (slcStr x36_39 none (some x41_49)) H50) H50) fun x42_51 H52 =>
     S.b (gd (wd x31_31 false) (some (x1_5, H52)) H52) fun x43_53 H54 =>
     S.b (gd (wd x31_31 false) (some (x2_6, H54)) H54) fun x44_55 H56 =>
     S.b (gd (wd x31_31 false) (some (x3_7, H56)) H56) fun x45_57 H58 =>
     S.b (gd (wd x31_31 false) (up (iAddrS 1 x44_55 x45_57) H58) H58) fun x46_59 H60 =>
     S.c (!(wd x31_31 false) || true) (S.b (gd (wd x31_31 false) (ldC x46_59 H60) H60) fun x47_61 H62 =>
     S.b (gd (wd x31_31 false) (up (binB Try.prog .quo 3 x47_61 (.int .i64 2)) H62) H62) fun x48_63 H64 =>
     S.b (gd (wd x31_31 false) (up (slcStr x43_53 none (some x48_63)) H64) H64) fun x49_65 H66 =>
     S.b (gd (wd x31_31 false) (bldS 1 3 [(.string ⟨#[]⟩)] [(0, 1, x42_51), (1, 1, (.string ⟨#[]⟩)), (2, 1, x49_65)] H66) H66) fun x50_67 H68 =>
     S.b (gd (wd x31_31 false) (C 3 [x35_37, x50_67] H68) H68) fun x51_69 H70 =>
     S.c (!(wd x31_31 false) || true) (S.b (gd (wd x31_31 false) (up (unB .not x51_69) H70) H70) fun x52_71 H72 =>
      S.b (pickV x31_31 (.bool true) x52_71 H72) fun x53_73 H74 =>
      S.b (gd (wd x53_73 false) (some (x1_5, H74)) H74) fun x55_75 H76 =>
      S.b (gd (wd x53_73 false) (some (x2_6, H76)) H76) fun x56_77 H78 =>
      S.b (gd (wd x53_73 false) (some (x3_7, H78)) H78) fun x57_79 H80 =>
      S.b (gd (wd x53_73 false) (up (iAddrS 1 x56_77 x57_79) H80) H80) fun x58_81 H82 =>
      S.c (!(wd x53_73 false) || true) (S.b (gd (wd x53_73 false) (ldC x58_81 H82) H82) fun x59_83 H84 =>
      S.b (gd (wd x53_73 false) (up (slcStr x55_75 none (some x59_83)) H84) H84) fun x60_85 H86 =>
      S.b (gd (wd x53_73 false) (ofStr x60_85 H86) H86) fun x61_87 H88 =>
      S.b (gd (wd x53_73 false) (some (x1_5, H88)) H88) fun x62_89 H90 =>
      S.b (gd (wd x53_73 false) (some (x2_6, H90)) H90) fun x63_91 H92 =>
      S.b (gd (wd x53_73 false) (some (x3_7, H92)) H92) fun x64_93 H94 =>
      S.b (gd (wd x53_73 false) (up (binB Try.prog .add 3 x64_93 (.int .i64 1)) H94) H94) fun x65_95 H96 =>
      S.b (gd (wd x53_73 false) (up (binB Try.prog .rem 3 x65_95 (.int .i64 9)) H96) H96) fun x66_97 H98 =>
      S.b (gd (wd x53_73 false) (up (iAddrS 1 x63_91 x66_97) H98) H98) fun x67_99 H100 =>
      S.c (!(wd x53_73 false) || true) (S.b (gd (wd x53_73 false) (ldC x67_99 H100) H100) fun x68_101 H102 =>
      S.b (gd (wd x53_73 false) (up (slcStr x62_89 none (some x68_101)) H102) H102) fun x69_103 H104 =>
      S.b (gd (wd x53_73 false) (ofStr x69_103 H104) H104) fun x70_105 H106 =>
      S.b (gd (wd x53_73 false) (C 4 [x61_87, x70_105] H106) H106) fun x71_107 H108 =>
      S.c (!(wd x53_73 false) || true) (S.b (gd (wd x53_73 false) (up (unB .not x71_107) H108) H108) fun x72_109 H110 =>
       S.b (pickV x53_73 (.bool true) x72_109 H110) fun x73_111 H112 =>
       S.i x73_111
       (some ((.bool false), H112))
       (S.b (up (binB Try.prog .add 3 x3_7 (.int .i64 1)) H112) fun x15_113 H114 =>
        f9_L0 S C n m x1_5 x2_6 x15_113 H114)))))))))))
   (S.b (C 29 [] H12) fun x74_115 H116 =>
    S.b (newV [(.slice none 0 0), (.slice none 0 0), (.slice none 0 0), (.slice none 0 0), (.slice none 0 0)] H116) fun x4_117 H118 =>
    S.b (stV 5 x4_117 x74_115 H118) fun _ H119 =>
    f9_L1 S C n n x1_5 x4_117 (.int .i64 0) H119)

noncomputable def f9_L0G (S : Seam (Value × Heap)) (C : CallF) (n : Nat) (R0 : Value→Value→Value→Heap→Option (Value × Heap)) (P1 : Env → Heap → Option (Value × Heap)) (env : Env) (H : Heap) : Option (Value × Heap) :=
 S.b (up (lenS (env 2)) H) fun x12_991 H992 =>
 S.b (up (binB Try.prog .lss 3 (env 3) x12_991) H992) fun x13_993 H994 =>
 S.i x13_993
 (S.b (up (iAddrS 1 (env 2) (env 3)) H994) fun x19_995 H996 =>
  S.c true (S.b (ldC x19_995 H996) fun x20_997 H998 =>
  S.b (up (slcStr (env 1) none (some x20_997)) H998) fun x21_999 H1000 =>
  S.b (ofStr x21_999 H1000) fun x22_1001 H1002 =>
  S.b (up (iAddrS 1 (env 2) (env 3)) H1002) fun x26_1003 H1004 =>
  S.c true (S.b (ldC x26_1003 H1004) fun x27_1005 H1006 =>
  S.b (up (slcStr (env 1) none (some x27_1005)) H1006) fun x28_1007 H1008 =>
  S.b (bldS 1 1 [(.string ⟨#[]⟩)] [(0, 1, x28_1007)] H1008) fun x29_1009 H1010 =>
  S.b (C 3 [x22_1001, x29_1009] H1010) fun x30_1011 H1012 =>
  S.c true (S.b (up (unB .not x30_1011) H1012) fun x31_1013 H1014 =>
   S.b (gd (wd x31_1013 false) (some ((env 3), H1014)) H1014) fun x33_1015 H1016 =>
   S.b (gd (wd x31_1013 false) (cvI .u8 x33_1015 H1016) H1016) fun x34_1017 H1018 =>
   S.b (gd (wd x31_1013 false) (bldS 1 1 [(.int .u8 0)] [(0, 1, x34_1017)] H1018) H1018) fun x35_1019 H1020 =>
   S.b (gd (wd x31_1013 false) (some ((env 1), H1020)) H1020) fun x36_1021 H1022 =>
   S.b (gd (wd x31_1013 false) (some ((env 2), H1022)) H1022) fun x37_1023 H1024 =>
   S.b (gd (wd x31_1013 false) (some ((env 3), H1024)) H1024) fun x38_1025 H1026 =>
   S.b (gd (wd x31_1013 false) (up (iAddrS 1 x37_1023 x38_1025) H1026) H1026) fun x39_1027 H1028 =>
   S.c (!(wd x31_1013 false) || true) (S.b (gd (wd x31_1013 false) (ldC x39_1027 H1028) H1028) fun x40_1029 H1030 =>
   S.b (gd (wd x31_1013 false) (up (binB Try.prog .quo 3 x40_1029 (.int .i64 2)) H1030) H1030) fun x41_1031 H1032 =>
   S.b (gd (wd x31_1013 false) (up (slcStr x36_1021 none (some x41_1031)) H1032) H1032) fun x42_1033 H1034 =>
   S.b (gd (wd x31_1013 false) (some ((env 1), H1034)) H1034) fun x43_1035 H1036 =>
   S.b (gd (wd x31_1013 false) (some ((env 2), H1036)) H1036) fun x44_1037 H1038 =>
   S.b (gd (wd x31_1013 false) (some ((env 3), H1038)) H1038) fun x45_1039 H1040 =>
   S.b (gd (wd x31_1013 false) (up (iAddrS 1 x44_1037 x45_1039) H1040) H1040) fun x46_1041 H1042 =>
   S.c (!(wd x31_1013 false) || true) (S.b (gd (wd x31_1013 false) (ldC x46_1041 H1042) H1042) fun x47_1043 H1044 =>
   S.b (gd (wd x31_1013 false) (up (binB Try.prog .quo 3 x47_1043 (.int .i64 2)) H1044) H1044) fun x48_1045 H1046 =>
   S.b (gd (wd x31_1013 false) (up (slcStr x43_1035 none (some x48_1045)) H1046) H1046) fun x49_1047 H1048 =>
   S.b (gd (wd x31_1013 false) (bldS 1 3 [(.string ⟨#[]⟩)] [(0, 1, x42_1033), (1, 1, (.string ⟨#[]⟩)), (2, 1, x49_1047)] H1048) H1048) fun x50_1049 H1050 =>
   S.b (gd (wd x31_1013 false) (C 3 [x35_1019, x50_1049] H1050) H1050) fun x51_1051 H1052 =>
   S.c (!(wd x31_1013 false) || true) (S.b (gd (wd x31_1013 false) (up (unB .not x51_1051) H1052) H1052) fun x52_1053 H1054 =>
    S.b (pickV x31_1013 (.bool true) x52_1053 H1054) fun x53_1055 H1056 =>
    S.b (gd (wd x53_1055 false) (some ((env 1), H1056)) H1056) fun x55_1057 H1058 =>
    S.b (gd (wd x53_1055 false) (some ((env 2), H1058)) H1058) fun x56_1059 H1060 =>
    S.b (gd (wd x53_1055 false) (some ((env 3), H1060)) H1060) fun x57_1061 H1062 =>
    S.b (gd (wd x53_1055 false) (up (iAddrS 1 x56_1059 x57_1061) H1062) H1062) fun x58_1063 H1064 =>
    S.c (!(wd x53_1055 false) || true) (S.b (gd (wd x53_1055 false) (ldC x58_1063 H1064) H1064) fun x59_1065 H1066 =>
    S.b (gd (wd x53_1055 false) (up (slcStr x55_1057 none (some x59_1065)) H1066) H1066) fun x60_1067 H1068 =>
    S.b (gd (wd x53_1055 false) (ofStr x60_1067 H1068) H1068) fun x61_1069 H1070 =>
    S.b (gd (wd x53_1055 false) (some ((env 1), H1070)) H1070) fun x62_1071 H1072 =>
    S.b (gd (wd x53_1055 false) (some ((env 2), H1072)) H1072) fun x63_1073 H1074 =>
    S.b (gd (wd x53_1055 false) (some ((env 3), H1074)) H1074) fun x64_1075 H1076 =>
    S.b (gd (wd x53_1055 false) (up (binB Try.prog .add 3 x64_1075 (.int .i64 1)) H1076) H1076) fun x65_1077 H1078 =>
    S.b (gd (wd x53_1055 false) (up (binB Try.prog .rem 3 x65_1077 (.int .i64 9)) H1078) H1078) fun x66_1079 H1080 =>
    S.b (gd (wd x53_1055 false) (up (iAddrS 1 x63_1073 x66_1079) H1080) H1080) fun x67_1081 H1082 =>
    S.c (!(wd x53_1055 false) || true) (S.b (gd (wd x53_1055 false) (ldC x67_1081 H1082) H1082) fun x68_1083 H1084 =>
    S.b (gd (wd x53_1055 false) (up (slcStr x62_1071 none (some x68_1083)) H1084) H1084) fun x69_1085 H1086 =>
    S.b (gd (wd x53_1055 false) (ofStr x69_1085 H1086) H1086) fun x70_1087 H1088 =>
    S.b (gd (wd x53_1055 false) (C 4 [x61_1069, x70_1087] H1088) H1088) fun x71_1089 H1090 =>
    S.c (!(wd x53_1055 false) || true) (S.b (gd (wd x53_1055 false) (up (unB .not x71_1089) H1090) H1090) fun x72_1091 H1092 =>
     S.b (pickV x53_1055 (.bool true) x72_1091 H1092) fun x73_1093 H1094 =>
     S.i x73_1093
     (some ((.bool false), H1094))
     (S.b (up (binB Try.prog .add 3 (env 3) (.int .i64 1)) H1094) fun x15_1095 H1096 =>
      R0 (env 1) (env 2) x15_1095 H1096)))))))))))
 (S.b (C 29 [] H994) fun x74_1097 H1098 =>
  S.b (newV [(.slice none 0 0), (.slice none 0 0), (.slice none 0 0), (.slice none 0 0), (.slice none 0 0)] H1098) fun x4_1099 H1100 =>
  S.b (stV 5 x4_1099 x74_1097 H1100) fun u1101 H1102 =>
  P1 (putE 202 (putE 202 (putE 202 (putE 202 (putE 202 (putE 202 (putE 202 (putE 202 env (some 10) (env 3)) (some 11) (env 2)) (some 12) x12_991) (some 13) x13_993) (some 74) x74_1097) (some 4) x4_1099) none u1101) (some 5) (.int .i64 0)) H1102)

theorem f9_L0_eq (S : Seam (Value × Heap)) (C : CallF) (n : Nat) : ∀ (m : Nat) (env : Env) (H : Heap), aloopK (acodeK S Try.prog C n 202 (cAt f9_c [1, 1, 1, 0, 1, 0, 0])) m env H (kAt S Try.prog C n 202 f9_c [1, 1, 1, 0, 1, 0] (fin Try.prog Try.f9)) = f9_L0 S C n m (env 1) (env 2) (env 3) H := by
  intro m env H
  refine aloopK_eq (L := fun m env H => f9_L0 S C n m (env 1) (env 2) (env 3) H) (fun env H => rfl) (fun m env H => ?_) m env H
  have h1 : acodeK S Try.prog C n 202 (cAt f9_c [1, 1, 1, 0, 1, 0, 0]) env H (onNormal (fun env' H' => f9_L0 S C n m (env' 1) (env' 2) (env' 3) H') (kAt S Try.prog C n 202 f9_c [1, 1, 1, 0, 1, 0] (fin Try.prog Try.f9))) = f9_L0G S C n (f9_L0 S C n m) (fun env H => aloopK (acodeK S Try.prog C n 202 (cAt f9_c [1, 1, 1, 1, 1, 0, 1, 0, 0])) n env H (kAt S Try.prog C n 202 f9_c [1, 1, 1, 1, 1, 0, 1, 0] (fin Try.prog Try.f9))) env H := by kernel_rfl
  have e0 : (fun env H => aloopK (acodeK S Try.prog C n 202 (cAt f9_c [1, 1, 1, 1, 1, 0, 1, 0, 0])) n env H (kAt S Try.prog C n 202 f9_c [1, 1, 1, 1, 1, 0, 1, 0] (fin Try.prog Try.f9))) = (fun env H => f9_L1 S C n n (env 1) (env 4) (env 5) H) := by funext env H; exact f9_L1_eq S C n n env H
  rw [e0] at h1
  exact h1.trans (by kernel_rfl)


noncomputable def f9 (S : Seam (Value × Heap)) (C : CallF) (n : Nat) (H : Heap) : Option (Value × Heap) :=
 S.b (C 28 [(.string ⟨#[120]⟩), (.int .i64 70000)] H) fun x8_1 H2 =>
 S.b (bldS 1 9 [(.int .i64 0)] [(0, 1, (.int .i64 0)), (1, 1, (.int .i64 1)), (2, 1, (.int .i64 127)), (3, 1, (.int .i64 128)), (4, 1, (.int .i64 65531)), (5, 1, (.int .i64 65532)), (6, 1, (.int .i64 65533)), (7, 1, (.int .i64 65536)), (8, 1, (.int .i64 70000))] H2) fun x9_3 H4 =>
 f9_L0 S C n n x8_1 x9_3 (.int .i64 0) H4

noncomputable def f9G (S : Seam (Value × Heap)) (C : CallF) (n : Nat) (P0 : Env → Heap → Option (Value × Heap)) (H : Heap) : Option (Value × Heap) :=
 S.b (C 28 [(.string ⟨#[120]⟩), (.int .i64 70000)] H) fun x8_1103 H1104 =>
 S.b (bldS 1 9 [(.int .i64 0)] [(0, 1, (.int .i64 0)), (1, 1, (.int .i64 1)), (2, 1, (.int .i64 127)), (3, 1, (.int .i64 128)), (4, 1, (.int .i64 65531)), (5, 1, (.int .i64 65532)), (6, 1, (.int .i64 65533)), (7, 1, (.int .i64 65536)), (8, 1, (.int .i64 70000))] H1104) fun x9_1105 H1106 =>
 P0 (putE 202 (putE 202 (putE 202 (putE 202 (putE 202 (putE 202 (env0 []) (some 0) (.bool false)) (some 8) x8_1103) (some 1) x8_1103) (some 9) x9_1105) (some 2) x9_1105) (some 3) (.int .i64 0)) H1106

theorem f9_main (S : Seam (Value × Heap)) (C : CallF) (n : Nat) (H : Heap) : acodeK S Try.prog C n 202 f9_c (env0 []) H (fin Try.prog Try.f9) = f9 S C n H := by
  have h1 : acodeK S Try.prog C n 202 f9_c (env0 []) H (fin Try.prog Try.f9) = f9G S C n (fun env H => aloopK (acodeK S Try.prog C n 202 (cAt f9_c [1, 1, 1, 0, 1, 0, 0])) n env H (kAt S Try.prog C n 202 f9_c [1, 1, 1, 0, 1, 0] (fin Try.prog Try.f9))) H := by kernel_rfl
  have e0 : (fun env H => aloopK (acodeK S Try.prog C n 202 (cAt f9_c [1, 1, 1, 0, 1, 0, 0])) n env H (kAt S Try.prog C n 202 f9_c [1, 1, 1, 0, 1, 0] (fin Try.prog Try.f9))) = (fun env H => f9_L0 S C n n (env 1) (env 2) (env 3) H) := by funext env H; exact f9_L0_eq S C n n env H
  rw [e0] at h1
  exact h1.trans (by kernel_rfl)


theorem f9_eq {gl : Bool} {E : Ext} (hE : E 9 = none) (n : Nat) (H : Heap) : acall Try.prog gl E (n + 1) 9 [] H = f9 real (acall Try.prog gl E n) n H :=
  (acall_eq (N := 202) Try.func9 (by kernel_rfl) (by kernel_rfl) hE (okgl f9_c (by kernel_rfl)) (by kernel_rfl)).trans (f9_main real _ n H)

end Go.Eng
