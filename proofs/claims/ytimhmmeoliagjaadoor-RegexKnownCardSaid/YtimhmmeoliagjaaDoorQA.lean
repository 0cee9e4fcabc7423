import Derived.Test.YtimhmmeoliagjaaDoorProg
import Derived.Test.YtimhmmeoliagjaaDoorEnhT
import Derived.KernelRfl
set_option linter.unusedVariables false
set_option maxRecDepth 100000
namespace Go.Eng
open Go Go.Proofs

noncomputable def f3 (S : Seam (Value × Heap)) (C : CallF) (n : Nat) (x0 : Value) (H : Heap) : Option (Value × Heap) :=
 S.b (newV (Value.cells x0).toList H) fun y1 H2 =>
 S.b (ldA 1 y1 H2) fun y3 H4 =>
 S.b (C 11 [y3] H4) fun y5 H6 =>
 S.b (newV [(.slice none 0 0)] H6) fun y7 H8 =>
 S.b (stV 1 y7 y5 H8) fun _ H9 =>
 S.b (ldA 1 y7 H9) fun y10 H11 =>
 S.b (C 12 [y10] H11) fun y12 H13 =>
 S.b (extr 0 y12 H13) fun y14 H15 =>
 S.b (extr 1 y12 H15) fun y16 H17 =>
 S.b (ldA 1 y1 H17) fun y18 H19 =>
 S.b (C 13 [y18] H19) fun y20 H21 =>
 S.b (extr 0 y20 H21) fun y22 H23 =>
 S.b (extr 1 y20 H23) fun y24 H25 =>
 S.b (ldA 1 y7 H25) fun y26 H27 =>
 S.b (C 14 [y26] H27) fun y28 H29 =>
 S.b (extr 0 y28 H29) fun y30 H31 =>
 S.b (extr 1 y28 H31) fun y32 H33 =>
 S.b (ldA 1 y1 H33) fun y34 H35 =>
 S.b (C 15 [y34] H35) fun y36 H37 =>
 S.b (extr 0 y36 H37) fun y38 H39 =>
 S.b (extr 1 y36 H39) fun y40 H41 =>
 S.b (up (binB Tryd.prog .eql 9 y14 y22) H41) fun y42 H43 =>
 S.b (gd (wd y42 true) (some (y16, H43)) H43) fun y44 H45 =>
 S.b (gd (wd y42 true) (some (y24, H45)) H45) fun y46 H47 =>
 S.b (gd (wd y42 true) (up (binB Tryd.prog .eql 26 y44 y46) H47) H47) fun y48 H49 =>
 S.b (pickV y42 y48 (.bool false) H49) fun y50 H51 =>
 S.c (!(wd y50 true) || true) (S.b (gd (wd y50 true) (ldA 1 y7 H51) H51) fun y52 H53 =>
 S.b (gd (wd y50 true) (C 16 [y52] H53) H53) fun y54 H55 =>
 S.c (!(wd y50 true) || true) (S.c (!(wd y50 true) || ((!(wd y50 true) || sameBlk H53 H55 (blkOf y1)) && true)) (S.b (gd (wd y50 true) (ldA 1 y1 H55) H55) fun y56 H57 =>
  S.b (gd (wd y50 true) (C 17 [y56] H57) H57) fun y58 H59 =>
  S.c (!(wd y50 true) || true) (S.b (gd (wd y50 true) (up (binB Tryd.prog .eql 26 y54 y58) H59) H59) fun y60 H61 =>
  S.b (pickV y50 y60 (.bool false) H61) fun y62 H63 =>
  S.b (gd (wd y62 true) (some (y30, H63)) H63) fun y64 H65 =>
  S.b (gd (wd y62 true) (some (y38, H65)) H65) fun y66 H67 =>
  S.b (gd (wd y62 true) (up (binB Tryd.prog .eql 4 y64 y66) H67) H67) fun y68 H69 =>
  S.b (pickV y62 y68 (.bool false) H69) fun y70 H71 =>
  S.b (gd (wd y70 true) (some (y32, H71)) H71) fun y72 H73 =>
  S.b (gd (wd y70 true) (some (y40, H73)) H73) fun y74 H75 =>
  S.b (gd (wd y70 true) (up (binB Tryd.prog .eql 26 y72 y74) H75) H75) fun y76 H77 =>
  S.b (pickV y70 y76 (.bool false) H77) fun y78 H79 =>
  S.c (!(wd y78 true) || true) (S.b (gd (wd y78 true) (ldA 1 y7 H79) H79) fun y80 H81 =>
  S.c (!(wd y78 true) || true) (S.b (gd (wd y78 true) (ldA 1 y1 H81) H81) fun y82 H83 =>
  S.b (gd (wd y78 true) (C 18 [y80, y82] H83) H83) fun y84 H85 =>
  S.c (!(wd y78 true) || true) (S.b (pickV y78 y84 (.bool false) H85) fun y86 H87 =>
  S.b (gd (wd y86 true) (C 19 [] H87) H87) fun y88 H89 =>
  S.c (!(wd y86 true) || true) (S.b (pickV y86 y88 (.bool false) H89) fun y90 H91 =>
  some (y90, H91)))))))))

noncomputable def f4_J1 (S : Seam (Value × Heap)) (C : CallF) (n : Nat) (y29 y30 : Value) (H31 : Heap) : Option (Value × Heap) :=
 S.b (up (binB Tryd.prog .eql 26 y29 y30) H31) fun y32 H33 =>
 S.b (gd (wd y32 true) (C 19 [] H33) H33) fun y34 H35 =>
 S.b (pickV y32 y34 (.bool false) H35) fun y36 H37 =>
 some (y36, H37)

noncomputable def f4 (S : Seam (Value × Heap)) (C : CallF) (n : Nat) (x0 : Value) (x1 : Value) (H : Heap) : Option (Value × Heap) :=
 S.b (newV (Value.cells x0).toList H) fun y1 H2 =>
 S.b (up (lenS x1) H2) fun y3 H4 =>
 S.b (up (binB Tryd.prog .gtr 3 y3 (.int .i64 40)) H4) fun y5 H6 =>
 S.i y5
 (S.b (ldA 1 y1 H6) fun y7 H8 =>
  S.b (C 20 [y7, x1] H8) fun y9 H10 =>
  S.b (extr 0 y9 H10) fun y11 H12 =>
  S.b (extr 1 y9 H12) fun y13 H14 =>
  S.b (ldA 1 y1 H14) fun y15 H16 =>
  S.b (C 17 [y15] H16) fun y17 H18 =>
  S.b (up (binB Tryd.prog .eql 26 y17 (.int .i64 0)) H18) fun y19 H20 =>
  S.b (gd (wd y19 true) (some (x1, H20)) H20) fun y21 H22 =>
  S.b (gd (wd y19 true) (up (lenS y21) H22) H22) fun y23 H24 =>
  S.b (gd (wd y19 true) (up (binB Tryd.prog .gtr 3 y23 (.int .i64 8192)) H24) H24) fun y25 H26 =>
  S.b (pickV y19 y25 (.bool false) H26) fun y27 H28 =>
  S.i y27
  (f4_J1 S C n y13 (.int .i64 5) H28)
  (f4_J1 S C n y13 y17 H28))
 (S.b (C 21 [x1] H6) fun y38 H39 =>
  S.b (ldA 1 y1 H39) fun y40 H41 =>
  S.b (C 20 [y40, y38] H41) fun y42 H43 =>
  S.b (extr 0 y42 H43) fun y44 H45 =>
  S.b (extr 1 y42 H45) fun y46 H47 =>
  S.b (ldA 1 y1 H47) fun y48 H49 =>
  S.b (C 22 [y48, x1] H49) fun y50 H51 =>
  S.b (extr 0 y50 H51) fun y52 H53 =>
  S.b (extr 1 y50 H53) fun y54 H55 =>
  S.b (up (binB Tryd.prog .eql 4 y44 y52) H55) fun y56 H57 =>
  S.b (gd (wd y56 true) (some (y46, H57)) H57) fun y58 H59 =>
  S.b (gd (wd y56 true) (some (y54, H59)) H59) fun y60 H61 =>
  S.b (gd (wd y56 true) (up (binB Tryd.prog .eql 26 y58 y60) H61) H61) fun y62 H63 =>
  S.b (pickV y56 y62 (.bool false) H63) fun y64 H65 =>
  S.b (gd (wd y64 true) (some (y38, H65)) H65) fun y66 H67 =>
  S.b (gd (wd y64 true) (some (x1, H67)) H67) fun y68 H69 =>
  S.b (gd (wd y64 true) (C 23 [y66, y68] H69) H69) fun y70 H71 =>
  S.b (pickV y64 y70 (.bool false) H71) fun y72 H73 =>
  S.b (gd (wd y72 true) (C 19 [] H73) H73) fun y74 H75 =>
  S.b (pickV y72 y74 (.bool false) H75) fun y76 H77 =>
  some (y76, H77))

noncomputable def f11 (S : Seam (Value × Heap)) (C : CallF) (n : Nat) (x0 : Value) (H : Heap) : Option (Value × Heap) :=
 S.b (newV (Value.cells x0).toList H) fun y1 H2 =>
 S.b (newV [(.slice none 0 0)] H2) fun y3 H4 =>
 S.b (up (fAddr 0 y1) H4) fun y5 H6 =>
 S.b (ldC y5 H6) fun y7 H8 =>
 S.b (app 7 56 (.slice none 0 0) y7 H8) fun y9 H10 =>
 S.b (bld [(.slice none 0 0)] [(0, 1, y9)] H10) fun y11 H12 =>
 S.b (stV 1 y3 y11 H12) fun _ H13 =>
 (resM [(ldA 1 y3 H13).map (·.1)]).map fun l => (one l, H13)

noncomputable def f12_c : Code := (Tryd.f12.body).getD .skip

noncomputable def f12 (S : Seam (Value × Heap)) (C : CallF) (n : Nat) (x0 : Value) (H : Heap) : Option (Value × Heap) :=
 S.b (newV (Value.cells x0).toList H) fun y1 H2 =>
 S.b (ldA 1 y1 H2) fun y3 H4 =>
 S.b (C 16 [y3] H4) fun y5 H6 =>
 S.b (up (binB Tryd.prog .neq 26 y5 (.int .i64 0)) H6) fun y7 H8 =>
 S.i y7
 (some (.tuple #[(.string ⟨#[]⟩), y5], H8))
 (S.b (up (fAddr 0 y1) H8) fun y9 H10 =>
  S.b (ldC y9 H10) fun y11 H12 =>
  S.b (up (fAddr 0 y1) H12) fun y13 H14 =>
  S.b (ldC y13 H14) fun y15 H16 =>
  S.b (up (lenS y15) H16) fun y17 H18 =>
  S.b (up (binB Tryd.prog .sub 3 y17 (.int .i64 1)) H18) fun y19 H20 =>
  S.b (C 36 [y11, y19, (.slice none 0 0)] H20) fun y21 H22 =>
  S.b (up (lenStr y21) H22) fun y23 H24 =>
  S.b (up (binB Tryd.prog .gtr 3 y23 (.int .i64 1024)) H24) fun y25 H26 =>
  S.i y25
  (some (.tuple #[(.string ⟨#[]⟩), (.int .i64 5)], H26))
  (some (.tuple #[y21, (.int .i64 0)], H26)))

theorem f12_main (S : Seam (Value × Heap)) (C : CallF) (n : Nat) (x0 : Value) (H : Heap) : acodeK S Tryd.prog C n 22 f12_c (env0 [x0]) H (fin Tryd.prog Tryd.f12) = f12 S C n x0 H := by
  kernel_rfl


theorem f12_eq {E : Ext} (hE : E 12 = none) (n : Nat) (x0 : Value) (H : Heap) : acall Tryd.prog true E (n + 1) 12 [x0] H = f12 real (acall Tryd.prog true E n) n x0 H :=
  (acall_eq (N := 22) Tryd.func12 (by kernel_rfl) (by kernel_rfl) hE (by kernel_rfl) (by kernel_rfl)).trans (f12_main real _ n x0 H)

noncomputable def f14_c : Code := (Tryd.f14.body).getD .skip

noncomputable def f14 (S : Seam (Value × Heap)) (C : CallF) (n : Nat) (x0 : Value) (H : Heap) : Option (Value × Heap) :=
 S.b (newV (Value.cells x0).toList H) fun y1 H2 =>
 S.b (ldA 1 y1 H2) fun y3 H4 =>
 S.b (C 20 [y3, (.slice none 0 0)] H4) fun y5 H6 =>
 S.b (extr 0 y5 H6) fun y7 H8 =>
 S.b (extr 1 y5 H8) fun y9 H10 =>
 some (.tuple #[y7, y9], H10)

theorem f14_main (S : Seam (Value × Heap)) (C : CallF) (n : Nat) (x0 : Value) (H : Heap) : acodeK S Tryd.prog C n 8 f14_c (env0 [x0]) H (fin Tryd.prog Tryd.f14) = f14 S C n x0 H := by
  kernel_rfl


theorem f14_eq {E : Ext} (hE : E 14 = none) (n : Nat) (x0 : Value) (H : Heap) : acall Tryd.prog true E (n + 1) 14 [x0] H = f14 real (acall Tryd.prog true E n) n x0 H :=
  (acall_eq (N := 8) Tryd.func14 (by kernel_rfl) (by kernel_rfl) hE (by kernel_rfl) (by kernel_rfl)).trans (f14_main real _ n x0 H)

noncomputable def f16_c : Code := (Tryd.f16.body).getD .skip

noncomputable def f16 (S : Seam (Value × Heap)) (C : CallF) (n : Nat) (x0 : Value) (H : Heap) : Option (Value × Heap) :=
 S.b (newV (Value.cells x0).toList H) fun y1 H2 =>
 S.b (up (fAddr 0 y1) H2) fun y3 H4 =>
 S.b (ldC y3 H4) fun y5 H6 =>
 S.b (up (lenS y5) H6) fun y7 H8 =>
 S.b (up (binB Tryd.prog .gtr 3 y7 (.int .i64 256)) H8) fun y9 H10 =>
 S.i y9
 (some ((.int .i64 5), H10))
 (S.b (up (fAddr 0 y1) H10) fun y11 H12 =>
  S.c true (S.b (ldC y11 H12) fun y13 H14 =>
  S.b (up (lenS y13) H14) fun y15 H16 =>
  S.b (up (binB Tryd.prog .eql 3 y15 (.int .i64 0)) H16) fun y17 H18 =>
  S.b (gd (wd y17 false) (up (fAddr 0 y1) H18) H18) fun y19 H20 =>
  S.c (!(wd y17 false) || true) (S.b (gd (wd y17 false) (ldC y19 H20) H20) fun y21 H22 =>
  S.b (gd (wd y17 false) (up (fAddr 0 y1) H22) H22) fun y23 H24 =>
  S.c (!(wd y17 false) || true) (S.b (gd (wd y17 false) (ldC y23 H24) H24) fun y25 H26 =>
  S.b (gd (wd y17 false) (up (lenS y25) H26) H26) fun y27 H28 =>
  S.b (gd (wd y17 false) (up (binB Tryd.prog .sub 3 y27 (.int .i64 1)) H28) H28) fun y29 H30 =>
  S.b (gd (wd y17 false) (C 38 [y21, y29] H30) H30) fun y31 H32 =>
  S.c (!(wd y17 false) || true) (S.b (gd (wd y17 false) (up (fAddr 0 y1) H32) H32) fun y33 H34 =>
  S.c (!(wd y17 false) || ((!(wd y17 false) || sameBlk H30 H32 (blkOf y33)) && true)) (S.b (gd (wd y17 false) (ldC y33 H34) H34) fun y35 H36 =>
  S.b (gd (wd y17 false) (up (lenS y35) H36) H36) fun y37 H38 =>
  S.b (gd (wd y17 false) (up (binB Tryd.prog .neq 3 y31 y37) H38) H38) fun y39 H40 =>
  S.b (pickV y17 (.bool true) y39 H40) fun y41 H42 =>
  S.i y41
  (some ((.int .i64 2), H42))
  (some ((.int .i64 0), H42))))))))

theorem f16_main (S : Seam (Value × Heap)) (C : CallF) (n : Nat) (x0 : Value) (H : Heap) : acodeK S Tryd.prog C n 26 f16_c (env0 [x0]) H (fin Tryd.prog Tryd.f16) = f16 S C n x0 H := by
  kernel_rfl


theorem f16_eq {E : Ext} (hE : E 16 = none) (n : Nat) (x0 : Value) (H : Heap) : acall Tryd.prog true E (n + 1) 16 [x0] H = f16 real (acall Tryd.prog true E n) n x0 H :=
  (acall_eq (N := 26) Tryd.func16 (by kernel_rfl) (by kernel_rfl) hE (by kernel_rfl) (by kernel_rfl)).trans (f16_main real _ n x0 H)

noncomputable def f18_c : Code := (Tryd.f18.body).getD .skip

noncomputable def f18_L0 (S : Seam (Value × Heap)) (C : CallF) (n : Nat) : Nat → Value → Value → Value → Heap → Option (Value × Heap)
 | 0, _, _, _, _ => none
 | m + 1, y19, y20, y21, H22 =>
  S.b (up (fAddr 0 y19) H22) fun y23 H24 =>
  S.b (ldC y23 H24) fun y25 H26 =>
  S.b (up (lenS y25) H26) fun y27 H28 =>
  S.b (up (binB Tryd.prog .lss 3 y21 y27) H28) fun y29 H30 =>
  S.i y29
  (S.b (up (fAddr 0 y19) H30) fun y31 H32 =>
  S.c true (S.b (ldC y31 H32) fun y33 H34 =>
  S.b (up (iAddrS 7 y33 y21) H34) fun y35 H36 =>
  S.c true (S.b (ldA 7 y35 H36) fun y37 H38 =>
  S.b (up (fAddr 0 y20) H38) fun y39 H40 =>
  S.c true (S.b (ldC y39 H40) fun y41 H42 =>
  S.b (up (iAddrS 7 y41 y21) H42) fun y43 H44 =>
  S.c true (S.b (ldA 7 y43 H44) fun y45 H46 =>
  S.b (up (binB Tryd.prog .neq 63 y37 y45) H46) fun y47 H48 =>
  S.i y47
  (some ((.bool false), H48))
  (S.b (up (binB Tryd.prog .add 3 y21 (.int .i64 1)) H48) fun y49 H50 =>
  f18_L0 S C n m y19 y20 y49 H50))))))
  (some ((.bool true), H30))

theorem f18_L0_eq (S : Seam (Value × Heap)) (C : CallF) (n : Nat) : ∀ (m : Nat) (env : Env) (H : Heap), aloopK (acodeK S Tryd.prog C n 31 (cAt f18_c [1, 1, 0, 1, 0, 0])) m env H (kAt S Tryd.prog C n 31 f18_c [1, 1, 0, 1, 0] (fin Tryd.prog Tryd.f18)) = f18_L0 S C n m (env 2) (env 3) (env 5) H := by
  intro m env H
  refine aloopK_eq (L := fun m env H => f18_L0 S C n m (env 2) (env 3) (env 5) H) (fun env H => rfl) (fun m env H => ?_) m env H
  kernel_rfl


noncomputable def f18 (S : Seam (Value × Heap)) (C : CallF) (n : Nat) (x0 : Value) (x1 : Value) (H : Heap) : Option (Value × Heap) :=
 S.b (newV (Value.cells x0).toList H) fun y1 H2 =>
 S.b (newV (Value.cells x1).toList H2) fun y3 H4 =>
 S.b (up (fAddr 0 y1) H4) fun y5 H6 =>
 S.b (ldC y5 H6) fun y7 H8 =>
 S.b (up (lenS y7) H8) fun y9 H10 =>
 S.b (up (fAddr 0 y3) H10) fun y11 H12 =>
 S.b (ldC y11 H12) fun y13 H14 =>
 S.b (up (lenS y13) H14) fun y15 H16 =>
 S.b (up (binB Tryd.prog .neq 3 y9 y15) H16) fun y17 H18 =>
 S.i y17
 (some ((.bool false), H18))
 (f18_L0 S C n n y1 y3 (.int .i64 0) H18)

noncomputable def f18G (S : Seam (Value × Heap)) (C : CallF) (n : Nat) (P0 : Env → Heap → Option (Value × Heap)) (x0 : Value) (x1 : Value) (H : Heap) : Option (Value × Heap) :=
 S.b (newV (Value.cells x0).toList H) fun y51 H52 =>
 S.b (newV (Value.cells x1).toList H52) fun y53 H54 =>
 S.b (up (fAddr 0 y51) H54) fun y55 H56 =>
 S.b (ldC y55 H56) fun y57 H58 =>
 S.b (up (lenS y57) H58) fun y59 H60 =>
 S.b (up (fAddr 0 y53) H60) fun y61 H62 =>
 S.b (ldC y61 H62) fun y63 H64 =>
 S.b (up (lenS y63) H64) fun y65 H66 =>
 S.b (up (binB Tryd.prog .neq 3 y59 y65) H66) fun y67 H68 =>
 S.i y67
 (some ((.bool false), H68))
 (P0 (putE 31 (putE 31 (putE 31 (putE 31 (putE 31 (putE 31 (putE 31 (putE 31 (putE 31 (putE 31 (putE 31 (env0 [x0, x1]) (some 2) y51) (some 3) y53) (some 4) (.bool false)) (some 6) y55) (some 7) y57) (some 8) y59) (some 9) y61) (some 10) y63) (some 11) y65) (some 12) y67) (some 5) (.int .i64 0)) H68)

theorem f18_main (S : Seam (Value × Heap)) (C : CallF) (n : Nat) (x0 : Value) (x1 : Value) (H : Heap) : acodeK S Tryd.prog C n 31 f18_c (env0 [x0, x1]) H (fin Tryd.prog Tryd.f18) = f18 S C n x0 x1 H := by
  have h1 : acodeK S Tryd.prog C n 31 f18_c (env0 [x0, x1]) H (fin Tryd.prog Tryd.f18) = f18G S C n (fun env H => aloopK (acodeK S Tryd.prog C n 31 (cAt f18_c [1, 1, 0, 1, 0, 0])) n env H (kAt S Tryd.prog C n 31 f18_c [1, 1, 0, 1, 0] (fin Tryd.prog Tryd.f18))) x0 x1 H := by kernel_rfl
  have e0 : (fun env H => aloopK (acodeK S Tryd.prog C n 31 (cAt f18_c [1, 1, 0, 1, 0, 0])) n env H (kAt S Tryd.prog C n 31 f18_c [1, 1, 0, 1, 0] (fin Tryd.prog Tryd.f18))) = (fun env H => f18_L0 S C n n (env 2) (env 3) (env 5) H) := by funext env H; exact f18_L0_eq S C n n env H
  rw [e0] at h1
  exact h1.trans (by kernel_rfl)


theorem f18_eq {E : Ext} (hE : E 18 = none) (n : Nat) (x0 : Value) (x1 : Value) (H : Heap) : acall Tryd.prog true E (n + 1) 18 [x0, x1] H = f18 real (acall Tryd.prog true E n) n x0 x1 H :=
  (acall_eq (N := 31) Tryd.func18 (by kernel_rfl) (by kernel_rfl) hE (by kernel_rfl) (by kernel_rfl)).trans (f18_main real _ n x0 x1 H)

noncomputable def f19_c : Code := (Tryd.f19.body).getD .skip

noncomputable def f19 (S : Seam (Value × Heap)) (C : CallF) (n : Nat) (H : Heap) : Option (Value × Heap) :=
 S.b (bldS 1 1 [(.int .u8 0)] [(0, 1, (.int .u8 97))] H) fun y1 H2 =>
 S.b (C 32 [y1] H2) fun y3 H4 =>
 S.b (C 30 [y3] H4) fun y5 H6 =>
 S.b (bldS 1 1 [(.int .u8 0)] [(0, 1, (.int .u8 98))] H6) fun y7 H8 =>
 S.b (C 32 [y7] H8) fun y9 H10 =>
 S.b (C 30 [y9] H10) fun y11 H12 =>
 S.b (newV [(.slice none 0 0)] H12) fun y13 H14 =>
 S.b (newV [(.slice none 0 0)] H14) fun y15 H16 =>
 S.b (stV 1 y13 y5 H16) fun _ H17 =>
 S.b (stV 1 y15 y11 H17) fun _ H18 =>
 S.b (bldS 1 1 [(.int .u8 0)] [(0, 1, (.int .u8 97))] H18) fun y19 H20 =>
 S.b (C 32 [y19] H20) fun y21 H22 =>
 S.b (bld [(.int .i64 0), (.int .u64 0), (.int .u64 0), (.int .u64 0), (.int .u64 0), (.int .i64 0), (.int .i64 0)] [(0, 1, (.int .i64 2)), (1, 4, y21)] H22) fun y23 H24 =>
 S.b (bldS 1 1 [(.int .u8 0)] [(0, 1, (.int .u8 98))] H24) fun y25 H26 =>
 S.b (C 32 [y25] H26) fun y27 H28 =>
 S.b (bld [(.int .i64 0), (.int .u64 0), (.int .u64 0), (.int .u64 0), (.int .u64 0), (.int .i64 0), (.int .i64 0)] [(0, 1, (.int .i64 2)), (1, 4, y27)] H28) fun y29 H30 =>
 S.b (bld [(.int .i64 0), (.int .u64 0), (.int .u64 0), (.int .u64 0), (.int .u64 0), (.int .i64 0), (.int .i64 0)] [(0, 1, (.int .i64 5)), (5, 1, (.int .i64 1))] H30) fun y31 H32 =>
 S.b (bld [(.int .i64 0), (.int .u64 0), (.int .u64 0), (.int .u64 0), (.int .u64 0), (.int .i64 0), (.int .i64 0)] [(0, 1, (.int .i64 3)), (5, 1, (.int .i64 0)), (6, 1, (.int .i64 2))] H32) fun y33 H34 =>
 S.b (bldS 7 4 [(.int .i64 0), (.int .u64 0), (.int .u64 0), (.int .u64 0), (.int .u64 0), (.int .i64 0), (.int .i64 0)] [(0, 7, y23), (7, 7, y29), (14, 7, y31), (21, 7, y33)] H34) fun y35 H36 =>
 S.b (bld [(.slice none 0 0)] [(0, 1, y35)] H36) fun y37 H38 =>
 S.b (newV [(.slice none 0 0)] H38) fun y39 H40 =>
 S.b (stV 1 y39 y37 H40) fun _ H41 =>
 S.b (C 34 [(.string ⟨#[97, 98, 42]⟩)] H41) fun y42 H43 =>
 S.b (C 14 [y42] H43) fun y44 H45 =>
 S.b (extr 0 y44 H45) fun y46 H47 =>
 S.b (extr 1 y44 H47) fun y48 H49 =>
 S.b (C 34 [(.string ⟨#[97, 98, 42]⟩)] H49) fun y50 H51 =>
 S.c true (S.c ((sameBlk H49 H51 (blkOf y39)) && true) (S.b (ldA 1 y39 H51) fun y52 H53 =>
  S.b (C 18 [y50, y52] H53) fun y54 H55 =>
  S.c true (S.b (gd (wd y54 true) (some (y48, H55)) H55) fun y56 H57 =>
  S.b (gd (wd y54 true) (up (binB Tryd.prog .eql 26 y56 (.int .i64 0)) H57) H57) fun y58 H59 =>
  S.b (pickV y54 y58 (.bool false) H59) fun y60 H61 =>
  S.b (gd (wd y60 true) (some (y46, H61)) H61) fun y62 H63 =>
  S.b (gd (wd y60 true) (up (unB .not y62) H63) H63) fun y64 H65 =>
  S.b (pickV y60 y64 (.bool false) H65) fun y66 H67 =>
  S.b (gd (wd y66 true) (C 27 [(.string ⟨#[97, 98, 42]⟩), (.string ⟨#[97, 98, 98]⟩)] H67) H67) fun y68 H69 =>
  S.c (!(wd y66 true) || true) (S.b (pickV y66 y68 (.bool false) H69) fun y70 H71 =>
  S.b (gd (wd y70 true) (C 27 [(.string ⟨#[97, 98, 42]⟩), (.string ⟨#[98, 97]⟩)] H71) H71) fun y72 H73 =>
  S.c (!(wd y70 true) || true) (S.b (gd (wd y70 true) (up (unB .not y72) H73) H73) fun y74 H75 =>
  S.b (pickV y70 y74 (.bool false) H75) fun y76 H77 =>
  S.b (gd (wd y76 true) (C 34 [(.string ⟨#[97, 124]⟩)] H77) H77) fun y78 H79 =>
  S.c (!(wd y76 true) || true) (S.c (!(wd y76 true) || ((!(wd y76 true) || sameBlk H77 H79 (blkOf y13)) && true)) (S.b (gd (wd y76 true) (ldA 1 y13 H79) H79) fun y80 H81 =>
  S.b (gd (wd y76 true) (C 40 [] H81) H81) fun y82 H83 =>
  S.c (!(wd y76 true) || (sameBlk H81 H83 (if (wd y76 true) then blkOf y13 else none) && true)) (S.b (gd (wd y76 true) (C 25 [(.int .i64 4), y80, y82] H83) H83) fun y84 H85 =>
  S.c (!(wd y76 true) || true) (S.b (gd (wd y76 true) (C 18 [y78, y84] H85) H85) fun y86 H87 =>
  S.c (!(wd y76 true) || true) (S.b (pickV y76 y86 (.bool false) H87) fun y88 H89 =>
  S.b (gd (wd y88 true) (C 28 [(.string ⟨#[40, 97]⟩), (.int .i64 2)] H89) H89) fun y90 H91 =>
  S.c (!(wd y88 true) || true) (S.b (pickV y88 y90 (.bool false) H91) fun y92 H93 =>
  S.b (gd (wd y92 true) (C 28 [(.string ⟨#[97, 124, 42]⟩), (.int .i64 2)] H93) H93) fun y94 H95 =>
  S.c (!(wd y92 true) || true) (S.b (pickV y92 y94 (.bool false) H95) fun y96 H97 =>
  S.b (gd (wd y96 true) (C 28 [(.string ⟨#[91, 98, 45, 97, 93]⟩), (.int .i64 3)] H97) H97) fun y98 H99 =>
  S.c (!(wd y96 true) || true) (S.b (pickV y96 y98 (.bool false) H99) fun y100 H101 =>
  S.b (gd (wd y100 true) (C 28 [(.string ⟨#[91, 93]⟩), (.int .i64 1)] H101) H101) fun y102 H103 =>
  S.c (!(wd y100 true) || true) (S.b (pickV y100 y102 (.bool false) H103) fun y104 H105 =>
  S.c (!(wd y104 true) || true) (S.b (gd (wd y104 true) (ldA 1 y13 H105) H105) fun y106 H107 =>
  S.c (!(wd y104 true) || true) (S.b (gd (wd y104 true) (ldA 1 y15 H107) H107) fun y108 H109 =>
  S.b (gd (wd y104 true) (C 25 [(.int .i64 3), y106, y108] H109) H109) fun y110 H111 =>
  S.c (!(wd y104 true) || true) (S.b (gd (wd y104 true) (C 26 [(.int .i64 5), y110] H111) H111) fun y112 H113 =>
  S.c (!(wd y104 true) || true) (S.b (gd (wd y104 true) (C 29 [y112, (.string ⟨#[40, 97, 98, 41, 42]⟩)] H113) H113) fun y114 H115 =>
  S.c (!(wd y104 true) || true) (S.b (pickV y104 y114 (.bool false) H115) fun y116 H117 =>
  S.b (gd (wd y116 true) (bldS 1 4 [(.int .u8 0)] [(0, 1, (.int .u8 97)), (1, 1, (.int .u8 98)), (2, 1, (.int .u8 99)), (3, 1, (.int .u8 120))] H117) H117) fun y118 H119 =>
  S.b (gd (wd y116 true) (C 32 [y118] H119) H119) fun y120 H121 =>
  S.c (!(wd y116 true) || true) (S.b (gd (wd y116 true) (C 30 [y120] H121) H121) fun y122 H123 =>
  S.c (!(wd y116 true) || true) (S.b (gd (wd y116 true) (C 29 [y122, (.string ⟨#[91, 97, 45, 99, 120, 93]⟩)] H123) H123) fun y124 H125 =>
  S.c (!(wd y116 true) || true) (S.b (pickV y116 y124 (.bool false) H125) fun y126 H127 =>
  S.b (gd (wd y126 true) (C 33 [(.int .u8 0), (.int .u8 255)] H127) H127) fun y128 H129 =>
  S.c (!(wd y126 true) || true) (S.b (gd (wd y126 true) (C 30 [y128] H129) H129) fun y130 H131 =>
  S.c (!(wd y126 true) || true) (S.b (gd (wd y126 true) (C 29 [y130, (.string ⟨#[91, 92, 120, 48, 48, 45, 92, 120, 102, 102, 93]⟩)] H131) H131) fun y132 H133 =>
  S.c (!(wd y126 true) || true) (S.b (pickV y126 y132 (.bool false) H133) fun y134 H135 =>
  some (y134, H135))))))))))))))))))))))))))

theorem f19_main (S : Seam (Value × Heap)) (C : CallF) (n : Nat) (H : Heap) : acodeK S Tryd.prog C n 82 f19_c (env0 []) H (fin Tryd.prog Tryd.f19) = f19 S C n H := by
  kernel_rfl


theorem f19_eq {E : Ext} (hE : E 19 = none) (n : Nat) (H : Heap) : acall Tryd.prog true E (n + 1) 19 [] H = f19 real (acall Tryd.prog true E n) n H :=
  (acall_eq (N := 82) Tryd.func19 (by kernel_rfl) (by kernel_rfl) hE (by kernel_rfl) (by kernel_rfl)).trans (f19_main real _ n H)

noncomputable def f20_c : Code := (Tryd.f20.body).getD .skip

noncomputable def f20_L0 (S : Seam (Value × Heap)) (C : CallF) (n : Nat) : Nat → Value → Value → Value → Value → Value → Heap → Option (Value × Heap)
 | 0, _, _, _, _, _, _ => none
 | m + 1, y31, y32, y33, y34, y35, H36 =>
  S.b (up (binB Tryd.prog .lss 3 y35 y34) H36) fun y37 H38 =>
  S.i y37
  (S.b (up (iAddrS 1 y33 y35) H38) fun y39 H40 =>
  S.b (ldC y39 H40) fun y41 H42 =>
  S.b (C 43 [y32, y41] H42) fun y43 H44 =>
  S.b (up (binB Tryd.prog .add 3 y35 (.int .i64 1)) H44) fun y45 H46 =>
  f20_L0 S C n m y31 y32 y33 y34 y45 H46)
  (S.b (nilC y32 H38) fun y47 H48 =>
  S.b (up (fAddr 3 y47) H48) fun y49 H50 =>
  S.c true (S.b (ldC y49 H50) fun y51 H52 =>
  S.b (up (fAddr 0 y31) H52) fun y53 H54 =>
  S.c true (S.b (ldC y53 H54) fun y55 H56 =>
  S.b (up (lenS y55) H56) fun y57 H58 =>
  S.b (up (binB Tryd.prog .sub 3 y57 (.int .i64 1)) H58) fun y59 H60 =>
  S.b (up (iAddrS 1 y51 y59) H60) fun y61 H62 =>
  S.c true (S.b (ldC y61 H62) fun y63 H64 =>
  some (.tuple #[y63, (.int .i64 0)], H64)))))

theorem f20_L0_eq (S : Seam (Value × Heap)) (C : CallF) (n : Nat) : ∀ (m : Nat) (env : Env) (H : Heap), aloopK (acodeK S Tryd.prog C n 47 (cAt f20_c [1, 1, 1, 1, 1, 0, 1, 0, 0])) m env H (kAt S Tryd.prog C n 47 f20_c [1, 1, 1, 1, 1, 0, 1, 0] (fin Tryd.prog Tryd.f20)) = f20_L0 S C n m (env 2) (env 7) (env 27) (env 28) (env 29) H := by
  intro m env H
  refine aloopK_eq (L := fun m env H => f20_L0 S C n m (env 2) (env 7) (env 27) (env 28) (env 29) H) (fun env H => rfl) (fun m env H => ?_) m env H
  kernel_rfl


noncomputable def f20 (S : Seam (Value × Heap)) (C : CallF) (n : Nat) (x0 : Value) (x1 : Value) (H : Heap) : Option (Value × Heap) :=
 S.b (newV (Value.cells x0).toList H) fun y1 H2 =>
 S.b (ldA 1 y1 H2) fun y3 H4 =>
 S.b (C 16 [y3] H4) fun y5 H6 =>
 S.b (up (binB Tryd.prog .neq 26 y5 (.int .i64 0)) H6) fun y7 H8 =>
 S.i y7
 (some (.tuple #[(.bool false), y5], H8))
 (S.b (up (lenS x1) H8) fun y9 H10 =>
  S.b (up (binB Tryd.prog .gtr 3 y9 (.int .i64 8192)) H10) fun y11 H12 =>
  S.i y11
  (some (.tuple #[(.bool false), (.int .i64 5)], H12))
  (S.b (up (fAddr 0 y1) H12) fun y13 H14 =>
  S.b (ldC y13 H14) fun y15 H16 =>
  S.b (C 41 [y15] H16) fun y17 H18 =>
  S.b (up (fAddr 0 y1) H18) fun y19 H20 =>
  S.b (ldC y19 H20) fun y21 H22 =>
  S.b (up (lenS y21) H22) fun y23 H24 =>
  S.b (up (binB Tryd.prog .sub 3 y23 (.int .i64 1)) H24) fun y25 H26 =>
  S.b (C 42 [y17, y25] H26) fun y27 H28 =>
  S.b (up (lenS x1) H28) fun y29 H30 =>
  f20_L0 S C n n y1 y17 x1 y29 (.int .i64 0) H30))

noncomputable def f20G (S : Seam (Value × Heap)) (C : CallF) (n : Nat) (P0 : Env → Heap → Option (Value × Heap)) (x0 : Value) (x1 : Value) (H : Heap) : Option (Value × Heap) :=
 S.b (newV (Value.cells x0).toList H) fun y65 H66 =>
 S.b (ldA 1 y65 H66) fun y67 H68 =>
 S.b (C 16 [y67] H68) fun y69 H70 =>
 S.b (up (binB Tryd.prog .neq 26 y69 (.int .i64 0)) H70) fun y71 H72 =>
 S.i y71
 (some (.tuple #[(.bool false), y69], H72))
 (S.b (up (lenS x1) H72) fun y73 H74 =>
  S.b (up (binB Tryd.prog .gtr 3 y73 (.int .i64 8192)) H74) fun y75 H76 =>
  S.i y75
  (some (.tuple #[(.bool false), (.int .i64 5)], H76))
  (S.b (up (fAddr 0 y65) H76) fun y77 H78 =>
  S.b (ldC y77 H78) fun y79 H80 =>
  S.b (C 41 [y79] H80) fun y81 H82 =>
  S.b (up (fAddr 0 y65) H82) fun y83 H84 =>
  S.b (ldC y83 H84) fun y85 H86 =>
  S.b (up (lenS y85) H86) fun y87 H88 =>
  S.b (up (binB Tryd.prog .sub 3 y87 (.int .i64 1)) H88) fun y89 H90 =>
  S.b (C 42 [y81, y89] H90) fun y91 H92 =>
  S.b (up (lenS x1) H92) fun y93 H94 =>
   P0 (putE 47 (putE 47 (putE 47 (putE 47 (putE 47 (putE 47 (putE 47 (putE 47 (putE 47 (putE 47 (putE 47 (putE 47 (putE 47 (putE 47 (putE 47 (putE 47 (putE 47 (putE 47 (putE 47 (putE 47 (putE 47 (putE 47 (putE 47 (putE 47 (env0 [x0, x1]) (some 2) y65) (some 4) (.bool false)) (some 5) (.int .i64 0)) (some 10) y67) (some 11) y69) (some 6) y69) (some 12) y69) (some 13) y71) (some 15) x1) (some 16) y73) (some 17) y75) (some 18) y77) (some 19) y79) (some 20) y81) (some 7) y81) (some 21) y81) (some 22) y83) (some 23) y85) (some 24) y87) (some 25) y89) (some 26) y91) (some 27) x1) (some 28) y93) (some 29) (.int .i64 0)) H94))

theorem f20_main (S : Seam (Value × Heap)) (C : CallF) (n : Nat) (x0 : Value) (x1 : Value) (H : Heap) : acodeK S Tryd.prog C n 47 f20_c (env0 [x0, x1]) H (fin Tryd.prog Tryd.f20) = f20 S C n x0 x1 H := by
  have h1 : acodeK S Tryd.prog C n 47 f20_c (env0 [x0, x1]) H (fin Tryd.prog Tryd.f20) = f20G S C n (fun env H => aloopK (acodeK S Tryd.prog C n 47 (cAt f20_c [1, 1, 1, 1, 1, 0, 1, 0, 0])) n env H (kAt S Tryd.prog C n 47 f20_c [1, 1, 1, 1, 1, 0, 1, 0] (fin Tryd.prog Tryd.f20))) x0 x1 H := by kernel_rfl
  have e0 : (fun env H => aloopK (acodeK S Tryd.prog C n 47 (cAt f20_c [1, 1, 1, 1, 1, 0, 1, 0, 0])) n env H (kAt S Tryd.prog C n 47 f20_c [1, 1, 1, 1, 1, 0, 1, 0] (fin Tryd.prog Tryd.f20))) = (fun env H => f20_L0 S C n n (env 2) (env 7) (env 27) (env 28) (env 29) H) := by funext env H; exact f20_L0_eq S C n n env H
  rw [e0] at h1
  exact h1.trans (by kernel_rfl)


theorem f20_eq {E : Ext} (hE : E 20 = none) (n : Nat) (x0 : Value) (x1 : Value) (H : Heap) : acall Tryd.prog true E (n + 1) 20 [x0, x1] H = f20 real (acall Tryd.prog true E n) n x0 x1 H :=
  (acall_eq (N := 47) Tryd.func20 (by kernel_rfl) (by kernel_rfl) hE (by kernel_rfl) (by kernel_rfl)).trans (f20_main real _ n x0 x1 H)

noncomputable def f24_c : Code := (Tryd.f24.body).getD .skip

noncomputable def f24_J1 (S : Seam (Value × Heap)) (C : CallF) (n : Nat) (y45 y46 y47 y48 : Value) (H49 : Heap) : Option (Value × Heap) :=
 S.b (nilC y48 H49) fun y50 H51 =>
 S.b (up (fAddr 2 y50) H51) fun y52 H53 =>
 S.b (ldC y52 H53) fun y54 H55 =>
 S.b (up (lenS y54) H55) fun y56 H57 =>
 S.b (up (binB Tryd.prog .gtr 3 y56 (.int .i64 256)) H57) fun y58 H59 =>
 S.i y58
 (S.b (bld [(.slice none 0 0)] [] H59) fun y60 H61 =>
  S.b (stV 1 y45 y60 H61) fun _ H62 =>
  S.b (stV 1 y46 (.int .i64 0) H62) fun _ H63 =>
  S.b (stV 1 y47 (.int .i64 5) H63) fun _ H64 =>
  (resM [(ldA 1 y45 H64).map (·.1), (ldC y46 H64).map (·.1), (ldC y47 H64).map (·.1)]).map fun l => (one l, H64))
 (S.b (nilC y48 H59) fun y65 H66 =>
  S.b (up (fAddr 2 y65) H66) fun y67 H68 =>
  S.b (ldC y67 H68) fun y69 H70 =>
  S.b (bld [(.slice none 0 0)] [(0, 1, y69)] H70) fun y71 H72 =>
  S.b (stV 1 y45 y71 H72) fun _ H73 =>
  S.b (stV 1 y46 (.int .i64 0) H73) fun _ H74 =>
  S.b (stV 1 y47 (.int .i64 0) H74) fun _ H75 =>
  (resM [(ldA 1 y45 H75).map (·.1), (ldC y46 H75).map (·.1), (ldC y47 H75).map (·.1)]).map fun l => (one l, H75))

noncomputable def f24 (S : Seam (Value × Heap)) (C : CallF) (n : Nat) (x0 : Value) (H : Heap) : Option (Value × Heap) :=
 S.b (newV [(.slice none 0 0)] H) fun y1 H2 =>
 S.b (newV [(.int .i64 0)] H2) fun y3 H4 =>
 S.b (newV [(.int .i64 0)] H4) fun y5 H6 =>
 S.b (up (lenStr x0) H6) fun y7 H8 =>
 S.b (up (binB Tryd.prog .gtr 3 y7 (.int .i64 1024)) H8) fun y9 H10 =>
 S.i y9
 (S.b (bld [(.slice none 0 0)] [] H10) fun y11 H12 =>
  S.b (stV 1 y1 y11 H12) fun _ H13 =>
  S.b (stV 1 y3 (.int .i64 0) H13) fun _ H14 =>
  S.b (stV 1 y5 (.int .i64 5) H14) fun _ H15 =>
  (resM [(ldA 1 y1 H15).map (·.1), (ldC y3 H15).map (·.1), (ldC y5 H15).map (·.1)]).map fun l => (one l, H15))
 (S.b (some (.func (.func 45) #[] #[y1, y3, y5], H10)) fun y16 H17 =>
  S.b (none) fun _ H18 =>
  S.b (bld [(.string ⟨#[]⟩), (.int .i64 0)] [(0, 1, x0)] H18) fun y19 H20 =>
  S.b (bld [(.string ⟨#[]⟩), (.int .i64 0), (.slice none 0 0)] [(0, 2, y19)] H20) fun y21 H22 =>
  S.b (newV (Value.cells y21).toList H22) fun y23 H24 =>
  S.b (C 46 [y23] H24) fun y25 H26 =>
  S.b (nilC y23 H26) fun y27 H28 =>
  S.b (up (fAddr 0 y27) H28) fun y29 H30 =>
  S.b (up (fAddr 1 y29) H30) fun y31 H32 =>
  S.b (ldC y31 H32) fun y33 H34 =>
  S.b (up (lenStr x0) H34) fun y35 H36 =>
  S.b (up (binB Tryd.prog .lss 3 y33 y35) H36) fun y37 H38 =>
  S.i y37
  (S.b (nilC y23 H38) fun y39 H40 =>
  S.b (up (fAddr 0 y39) H40) fun y41 H42 =>
  S.b (C 47 [y41] H42) fun y43 H44 =>
  f24_J1 S C n y1 y3 y5 y23 H44)
  (f24_J1 S C n y1 y3 y5 y23 H38))

theorem f24_main (S : Seam (Value × Heap)) (C : CallF) (n : Nat) (x0 : Value) (H : Heap) : acodeK S Tryd.prog C n 41 f24_c (env0 [x0]) H (fin Tryd.prog Tryd.f24) = f24 S C n x0 H := by
  kernel_rfl


theorem f24_eq {E : Ext} (hE : E 24 = none) (n : Nat) (x0 : Value) (H : Heap) : acall Tryd.prog true E (n + 1) 24 [x0] H = f24 real (acall Tryd.prog true E n) n x0 H :=
  (acall_eq (N := 41) Tryd.func24 (by kernel_rfl) (by kernel_rfl) hE (by kernel_rfl) (by kernel_rfl)).trans (f24_main real _ n x0 H)

noncomputable def f25_c : Code := (Tryd.f25.body).getD .skip

noncomputable def f25_L0 (S : Seam (Value × Heap)) (C : CallF) (n : Nat) : Nat → Value → Value → Value → Value → Value → Value → Heap → Option (Value × Heap)
 | 0, _, _, _, _, _, _, _ => none
 | m + 1, y13, y14, y15, y16, y17, y18, H19 =>
  S.b (up (fAddr 0 y15) H19) fun y20 H21 =>
  S.b (ldC y20 H21) fun y22 H23 =>
  S.b (up (lenS y22) H23) fun y24 H25 =>
  S.b (up (binB Tryd.prog .lss 3 y18 y24) H25) fun y26 H27 =>
  S.i y26
  (S.b (up (fAddr 0 y15) H27) fun y28 H29 =>
  S.c true (S.b (ldC y28 H29) fun y30 H31 =>
  S.b (up (iAddrS 7 y30 y18) H31) fun y32 H33 =>
  S.c true (S.b (ldA 7 y32 H33) fun y34 H35 =>
  S.b (up (fAddr 0 y14) H35) fun y36 H37 =>
  S.c true (S.b (ldC y36 H37) fun y38 H39 =>
  S.b (up (lenS y38) H39) fun y40 H41 =>
  S.b (C 48 [y34, y40] H41) fun y42 H43 =>
  S.c true (S.b (bldS 7 1 [(.int .i64 0), (.int .u64 0), (.int .u64 0), (.int .u64 0), (.int .u64 0), (.int .i64 0), (.int .i64 0)] [(0, 7, y42)] H43) fun y44 H45 =>
  S.b (app 7 56 y17 y44 H45) fun y46 H47 =>
  S.c true (S.b (up (binB Tryd.prog .add 3 y18 (.int .i64 1)) H47) fun y48 H49 =>
  f25_L0 S C n m y13 y14 y15 y16 y46 y48 H49))))))
  (S.b (up (fAddr 0 y14) H27) fun y50 H51 =>
  S.b (ldC y50 H51) fun y52 H53 =>
  S.b (up (lenS y52) H53) fun y54 H55 =>
  S.b (up (binB Tryd.prog .sub 3 y54 (.int .i64 1)) H55) fun y56 H57 =>
  S.b (up (lenS y17) H57) fun y58 H59 =>
  S.b (up (binB Tryd.prog .sub 3 y58 (.int .i64 1)) H59) fun y60 H61 =>
  S.b (bld [(.int .i64 0), (.int .u64 0), (.int .u64 0), (.int .u64 0), (.int .u64 0), (.int .i64 0), (.int .i64 0)] [(0, 1, y13), (5, 1, y56), (6, 1, y60)] H61) fun y62 H63 =>
  S.b (bldS 7 1 [(.int .i64 0), (.int .u64 0), (.int .u64 0), (.int .u64 0), (.int .u64 0), (.int .i64 0), (.int .i64 0)] [(0, 7, y62)] H63) fun y64 H65 =>
  S.b (app 7 56 y17 y64 H65) fun y66 H67 =>
  S.b (bld [(.slice none 0 0)] [(0, 1, y66)] H67) fun y68 H69 =>
  S.b (stV 1 y16 y68 H69) fun _ H70 =>
    (resM [(ldA 1 y16 H70).map (·.1)]).map fun l => (one l, H70))

theorem f25_L0_eq (S : Seam (Value × Heap)) (C : CallF) (n : Nat) : ∀ (m : Nat) (env : Env) (H : Heap), aloopK (acodeK S Tryd.prog C n 45 (cAt f25_c [1, 1, 1, 0, 1, 0, 0])) m env H (kAt S Tryd.prog C n 45 f25_c [1, 1, 1, 0, 1, 0] (fin Tryd.prog Tryd.f25)) = f25_L0 S C n m (env 0) (env 4) (env 5) (env 6) (env 7) (env 8) H := by
  intro m env H
  refine aloopK_eq (L := fun m env H => f25_L0 S C n m (env 0) (env 4) (env 5) (env 6) (env 7) (env 8) H) (fun env H => rfl) (fun m env H => ?_) m env H
  kernel_rfl


noncomputable def f25 (S : Seam (Value × Heap)) (C : CallF) (n : Nat) (x0 : Value) (x1 : Value) (x2 : Value) (H : Heap) : Option (Value × Heap) :=
 S.b (newV (Value.cells x1).toList H) fun y1 H2 =>
 S.b (newV (Value.cells x2).toList H2) fun y3 H4 =>
 S.b (newV [(.slice none 0 0)] H4) fun y5 H6 =>
 S.b (up (fAddr 0 y1) H6) fun y7 H8 =>
 S.b (ldC y7 H8) fun y9 H10 =>
 S.b (app 7 56 (.slice none 0 0) y9 H10) fun y11 H12 =>
 f25_L0 S C n n x0 y1 y3 y5 y11 (.int .i64 0) H12

noncomputable def f25G (S : Seam (Value × Heap)) (C : CallF) (n : Nat) (P0 : Env → Heap → Option (Value × Heap)) (x0 : Value) (x1 : Value) (x2 : Value) (H : Heap) : Option (Value × Heap) :=
 S.b (newV (Value.cells x1).toList H) fun y71 H72 =>
 S.b (newV (Value.cells x2).toList H72) fun y73 H74 =>
 S.b (newV [(.slice none 0 0)] H74) fun y75 H76 =>
 S.b (up (fAddr 0 y71) H76) fun y77 H78 =>
 S.b (ldC y77 H78) fun y79 H80 =>
 S.b (app 7 56 (.slice none 0 0) y79 H80) fun y81 H82 =>
 P0 (putE 45 (putE 45 (putE 45 (putE 45 (putE 45 (putE 45 (putE 45 (putE 45 (putE 45 (putE 45 (env0 [x0, x1, x2]) (some 4) y71) (some 5) y73) (some 6) y75) (some 7) (.slice none 0 0)) (some 9) (.slice none 0 0)) (some 10) y77) (some 11) y79) (some 12) y81) (some 7) y81) (some 8) (.int .i64 0)) H82

theorem f25_main (S : Seam (Value × Heap)) (C : CallF) (n : Nat) (x0 : Value) (x1 : Value) (x2 : Value) (H : Heap) : acodeK S Tryd.prog C n 45 f25_c (env0 [x0, x1, x2]) H (fin Tryd.prog Tryd.f25) = f25 S C n x0 x1 x2 H := by
  have h1 : acodeK S Tryd.prog C n 45 f25_c (env0 [x0, x1, x2]) H (fin Tryd.prog Tryd.f25) = f25G S C n (fun env H => aloopK (acodeK S Tryd.prog C n 45 (cAt f25_c [1, 1, 1, 0, 1, 0, 0])) n env H (kAt S Tryd.prog C n 45 f25_c [1, 1, 1, 0, 1, 0] (fin Tryd.prog Tryd.f25))) x0 x1 x2 H := by kernel_rfl
  have e0 : (fun env H => aloopK (acodeK S Tryd.prog C n 45 (cAt f25_c [1, 1, 1, 0, 1, 0, 0])) n env H (kAt S Tryd.prog C n 45 f25_c [1, 1, 1, 0, 1, 0] (fin Tryd.prog Tryd.f25))) = (fun env H => f25_L0 S C n n (env 0) (env 4) (env 5) (env 6) (env 7) (env 8) H) := by funext env H; exact f25_L0_eq S C n n env H
  rw [e0] at h1
  exact h1.trans (by kernel_rfl)


theorem f25_eq {E : Ext} (hE : E 25 = none) (n : Nat) (x0 : Value) (x1 : Value) (x2 : Value) (H : Heap) : acall Tryd.prog true E (n + 1) 25 [x0, x1, x2] H = f25 real (acall Tryd.prog true E n) n x0 x1 x2 H :=
  (acall_eq (N := 45) Tryd.func25 (by kernel_rfl) (by kernel_rfl) hE (by kernel_rfl) (by kernel_rfl)).trans (f25_main real _ n x0 x1 x2 H)

noncomputable def f26_c : Code := (Tryd.f26.body).getD .skip

noncomputable def f26 (S : Seam (Value × Heap)) (C : CallF) (n : Nat) (x0 : Value) (x1 : Value) (H : Heap) : Option (Value × Heap) :=
 S.b (newV (Value.cells x1).toList H) fun y1 H2 =>
 S.b (newV [(.slice none 0 0)] H2) fun y3 H4 =>
 S.b (up (fAddr 0 y1) H4) fun y5 H6 =>
 S.c true (S.b (ldC y5 H6) fun y7 H8 =>
 S.b (app 7 56 (.slice none 0 0) y7 H8) fun y9 H10 =>
 S.c true (S.b (up (fAddr 0 y1) H10) fun y11 H12 =>
  S.c ((sameBlk H8 H10 (blkOf y11)) && true) (S.b (ldC y11 H12) fun y13 H14 =>
  S.b (up (lenS y13) H14) fun y15 H16 =>
  S.b (up (binB Tryd.prog .sub 3 y15 (.int .i64 1)) H16) fun y17 H18 =>
  S.b (bld [(.int .i64 0), (.int .u64 0), (.int .u64 0), (.int .u64 0), (.int .u64 0), (.int .i64 0), (.int .i64 0)] [(0, 1, x0), (5, 1, y17)] H18) fun y19 H20 =>
  S.b (bldS 7 1 [(.int .i64 0), (.int .u64 0), (.int .u64 0), (.int .u64 0), (.int .u64 0), (.int .i64 0), (.int .i64 0)] [(0, 7, y19)] H20) fun y21 H22 =>
  S.b (app 7 56 y9 y21 H22) fun y23 H24 =>
  S.c true (S.b (bld [(.slice none 0 0)] [(0, 1, y23)] H24) fun y25 H26 =>
  S.b (stV 1 y3 y25 H26) fun _ H27 =>
  S.c true ((resM [(ldA 1 y3 H27).map (·.1)]).map fun l => (one l, H27))))))

theorem f26_main (S : Seam (Value × Heap)) (C : CallF) (n : Nat) (x0 : Value) (x1 : Value) (H : Heap) : acodeK S Tryd.prog C n 17 f26_c (env0 [x0, x1]) H (fin Tryd.prog Tryd.f26) = f26 S C n x0 x1 H := by
  kernel_rfl


theorem f26_eq {E : Ext} (hE : E 26 = none) (n : Nat) (x0 : Value) (x1 : Value) (H : Heap) : acall Tryd.prog true E (n + 1) 26 [x0, x1] H = f26 real (acall Tryd.prog true E n) n x0 x1 H :=
  (acall_eq (N := 17) Tryd.func26 (by kernel_rfl) (by kernel_rfl) hE (by kernel_rfl) (by kernel_rfl)).trans (f26_main real _ n x0 x1 H)

noncomputable def f27_c : Code := (Tryd.f27.body).getD .skip

noncomputable def f27 (S : Seam (Value × Heap)) (C : CallF) (n : Nat) (x0 : Value) (x1 : Value) (H : Heap) : Option (Value × Heap) :=
 S.b (C 34 [x0] H) fun y1 H2 =>
 S.b (ofStr x1 H2) fun y3 H4 =>
 S.b (C 20 [y1, y3] H4) fun y5 H6 =>
 S.b (extr 0 y5 H6) fun y7 H8 =>
 S.b (extr 1 y5 H8) fun y9 H10 =>
 S.b (up (binB Tryd.prog .eql 26 y9 (.int .i64 0)) H10) fun y11 H12 =>
 S.b (gd (wd y11 true) (some (y7, H12)) H12) fun y13 H14 =>
 S.b (pickV y11 y13 (.bool false) H14) fun y15 H16 =>
 some (y15, H16)

theorem f27_main (S : Seam (Value × Heap)) (C : CallF) (n : Nat) (x0 : Value) (x1 : Value) (H : Heap) : acodeK S Tryd.prog C n 20 f27_c (env0 [x0, x1]) H (fin Tryd.prog Tryd.f27) = f27 S C n x0 x1 H := by
  kernel_rfl


theorem f27_eq {E : Ext} (hE : E 27 = none) (n : Nat) (x0 : Value) (x1 : Value) (H : Heap) : acall Tryd.prog true E (n + 1) 27 [x0, x1] H = f27 real (acall Tryd.prog true E n) n x0 x1 H :=
  (acall_eq (N := 20) Tryd.func27 (by kernel_rfl) (by kernel_rfl) hE (by kernel_rfl) (by kernel_rfl)).trans (f27_main real _ n x0 x1 H)

noncomputable def f28_c : Code := (Tryd.f28.body).getD .skip

noncomputable def f28 (S : Seam (Value × Heap)) (C : CallF) (n : Nat) (x0 : Value) (x1 : Value) (H : Heap) : Option (Value × Heap) :=
 S.b (C 24 [x0] H) fun y1 H2 =>
 S.b (extr 0 y1 H2) fun y3 H4 =>
 S.b (extr 1 y1 H4) fun y5 H6 =>
 S.b (extr 2 y1 H6) fun y7 H8 =>
 S.b (newV [(.slice none 0 0)] H8) fun y9 H10 =>
 S.b (stV 1 y9 y3 H10) fun _ H11 =>
 S.b (up (binB Tryd.prog .eql 26 y7 (.int .i64 90)) H11) fun y12 H13 =>
 S.b (gd (wd y12 true) (some (y5, H13)) H13) fun y14 H15 =>
 S.b (gd (wd y12 true) (some (x1, H15)) H15) fun y16 H17 =>
 S.b (gd (wd y12 true) (up (binB Tryd.prog .eql 3 y14 y16) H17) H17) fun y18 H19 =>
 S.b (pickV y12 y18 (.bool false) H19) fun y20 H21 =>
 S.b (gd (wd y20 true) (up (fAddr 0 y9) H21) H21) fun y22 H23 =>
 S.b (gd (wd y20 true) (ldC y22 H23) H23) fun y24 H25 =>
 S.b (gd (wd y20 true) (up (lenS y24) H25) H25) fun y26 H27 =>
 S.b (gd (wd y20 true) (up (binB Tryd.prog .eql 3 y26 (.int .i64 0)) H27) H27) fun y28 H29 =>
 S.b (pickV y20 y28 (.bool false) H29) fun y30 H31 =>
 some (y30, H31)

theorem f28_main (S : Seam (Value × Heap)) (C : CallF) (n : Nat) (x0 : Value) (x1 : Value) (H : Heap) : acodeK S Tryd.prog C n 27 f28_c (env0 [x0, x1]) H (fin Tryd.prog Tryd.f28) = f28 S C n x0 x1 H := by
  kernel_rfl


theorem f28_eq {E : Ext} (hE : E 28 = none) (n : Nat) (x0 : Value) (x1 : Value) (H : Heap) : acall Tryd.prog true E (n + 1) 28 [x0, x1] H = f28 real (acall Tryd.prog true E n) n x0 x1 H :=
  (acall_eq (N := 27) Tryd.func28 (by kernel_rfl) (by kernel_rfl) hE (by kernel_rfl) (by kernel_rfl)).trans (f28_main real _ n x0 x1 H)

noncomputable def f29_c : Code := (Tryd.f29.body).getD .skip

noncomputable def f29 (S : Seam (Value × Heap)) (C : CallF) (n : Nat) (x0 : Value) (x1 : Value) (H : Heap) : Option (Value × Heap) :=
 S.b (newV (Value.cells x0).toList H) fun y1 H2 =>
 S.b (ldA 1 y1 H2) fun y3 H4 =>
 S.b (C 12 [y3] H4) fun y5 H6 =>
 S.b (extr 0 y5 H6) fun y7 H8 =>
 S.b (extr 1 y5 H8) fun y9 H10 =>
 S.b (up (binB Tryd.prog .eql 26 y9 (.int .i64 0)) H10) fun y11 H12 =>
 S.b (gd (wd y11 true) (some (y7, H12)) H12) fun y13 H14 =>
 S.b (gd (wd y11 true) (some (x1, H14)) H14) fun y15 H16 =>
 S.b (gd (wd y11 true) (up (binB Tryd.prog .eql 9 y13 y15) H16) H16) fun y17 H18 =>
 S.b (pickV y11 y17 (.bool false) H18) fun y19 H20 =>
 some (y19, H20)

theorem f29_main (S : Seam (Value × Heap)) (C : CallF) (n : Nat) (x0 : Value) (x1 : Value) (H : Heap) : acodeK S Tryd.prog C n 19 f29_c (env0 [x0, x1]) H (fin Tryd.prog Tryd.f29) = f29 S C n x0 x1 H := by
  kernel_rfl


theorem f29_eq {E : Ext} (hE : E 29 = none) (n : Nat) (x0 : Value) (x1 : Value) (H : Heap) : acall Tryd.prog true E (n + 1) 29 [x0, x1] H = f29 real (acall Tryd.prog true E n) n x0 x1 H :=
  (acall_eq (N := 19) Tryd.func29 (by kernel_rfl) (by kernel_rfl) hE (by kernel_rfl) (by kernel_rfl)).trans (f29_main real _ n x0 x1 H)

noncomputable def f30_c : Code := (Tryd.f30.body).getD .skip

noncomputable def f30 (S : Seam (Value × Heap)) (C : CallF) (n : Nat) (x0 : Value) (H : Heap) : Option (Value × Heap) :=
 S.b (newV (Value.cells x0).toList H) fun y1 H2 =>
 S.b (newV [(.slice none 0 0)] H2) fun y3 H4 =>
 S.b (ldA 4 y1 H4) fun y5 H6 =>
 S.b (bld [(.int .i64 0), (.int .u64 0), (.int .u64 0), (.int .u64 0), (.int .u64 0), (.int .i64 0), (.int .i64 0)] [(0, 1, (.int .i64 2)), (1, 4, y5)] H6) fun y7 H8 =>
 S.b (bldS 7 1 [(.int .i64 0), (.int .u64 0), (.int .u64 0), (.int .u64 0), (.int .u64 0), (.int .i64 0), (.int .i64 0)] [(0, 7, y7)] H8) fun y9 H10 =>
 S.b (bld [(.slice none 0 0)] [(0, 1, y9)] H10) fun y11 H12 =>
 S.b (stV 1 y3 y11 H12) fun _ H13 =>
 (resM [(ldA 1 y3 H13).map (·.1)]).map fun l => (one l, H13)

theorem f30_main (S : Seam (Value × Heap)) (C : CallF) (n : Nat) (x0 : Value) (H : Heap) : acodeK S Tryd.prog C n 7 f30_c (env0 [x0]) H (fin Tryd.prog Tryd.f30) = f30 S C n x0 H := by
  kernel_rfl


theorem f30_eq {E : Ext} (hE : E 30 = none) (n : Nat) (x0 : Value) (H : Heap) : acall Tryd.prog true E (n + 1) 30 [x0] H = f30 real (acall Tryd.prog true E n) n x0 H :=
  (acall_eq (N := 7) Tryd.func30 (by kernel_rfl) (by kernel_rfl) hE (by kernel_rfl) (by kernel_rfl)).trans (f30_main real _ n x0 H)

noncomputable def f31_c : Code := (Tryd.f31.body).getD .skip

noncomputable def f31_L0 (S : Seam (Value × Heap)) (C : CallF) (n : Nat) : Nat → Value → Value → Value → Heap → Option (Value × Heap)
 | 0, _, _, _, _ => none
 | m + 1, y5, y6, y7, H8 =>
  S.b (up (binB Tryd.prog .lss 3 y7 (.int .i64 4)) H8) fun y9 H10 =>
  S.i y9
  (S.b (up (iAddrA 4 1 y5 y7) H10) fun y11 H12 =>
  S.b (ldC y11 H12) fun y13 H14 =>
  S.b (up (unB .xor y13) H14) fun y15 H16 =>
  S.b (up (iAddrA 4 1 y5 y7) H16) fun y17 H18 =>
  S.b (stV 1 y17 y15 H18) fun _ H19 =>
  S.b (up (binB Tryd.prog .add 3 y7 (.int .i64 1)) H19) fun y20 H21 =>
  f31_L0 S C n m y5 y6 y20 H21)
  (S.b (ldA 4 y5 H10) fun y22 H23 =>
  S.b (stV 4 y6 y22 H23) fun _ H24 =>
    (resM [(ldA 4 y6 H24).map (·.1)]).map fun l => (one l, H24))

theorem f31_L0_eq (S : Seam (Value × Heap)) (C : CallF) (n : Nat) : ∀ (m : Nat) (env : Env) (H : Heap), aloopK (acodeK S Tryd.prog C n 15 (cAt f31_c [1, 0, 1, 0, 0])) m env H (kAt S Tryd.prog C n 15 f31_c [1, 0, 1, 0] (fin Tryd.prog Tryd.f31)) = f31_L0 S C n m (env 1) (env 2) (env 4) H := by
  intro m env H
  refine aloopK_eq (L := fun m env H => f31_L0 S C n m (env 1) (env 2) (env 4) H) (fun env H => rfl) (fun m env H => ?_) m env H
  kernel_rfl


noncomputable def f31 (S : Seam (Value × Heap)) (C : CallF) (n : Nat) (x0 : Value) (H : Heap) : Option (Value × Heap) :=
 S.b (newV (Value.cells x0).toList H) fun y1 H2 =>
 S.b (newV [(.int .u64 0), (.int .u64 0), (.int .u64 0), (.int .u64 0)] H2) fun y3 H4 =>
 f31_L0 S C n n y1 y3 (.int .i64 0) H4

noncomputable def f31G (S : Seam (Value × Heap)) (C : CallF) (n : Nat) (P0 : Env → Heap → Option (Value × Heap)) (x0 : Value) (H : Heap) : Option (Value × Heap) :=
 S.b (newV (Value.cells x0).toList H) fun y25 H26 =>
 S.b (newV [(.int .u64 0), (.int .u64 0), (.int .u64 0), (.int .u64 0)] H26) fun y27 H28 =>
 P0 (putE 15 (putE 15 (putE 15 (env0 [x0]) (some 1) y25) (some 2) y27) (some 4) (.int .i64 0)) H28

theorem f31_main (S : Seam (Value × Heap)) (C : CallF) (n : Nat) (x0 : Value) (H : Heap) : acodeK S Tryd.prog C n 15 f31_c (env0 [x0]) H (fin Tryd.prog Tryd.f31) = f31 S C n x0 H := by
  have h1 : acodeK S Tryd.prog C n 15 f31_c (env0 [x0]) H (fin Tryd.prog Tryd.f31) = f31G S C n (fun env H => aloopK (acodeK S Tryd.prog C n 15 (cAt f31_c [1, 0, 1, 0, 0])) n env H (kAt S Tryd.prog C n 15 f31_c [1, 0, 1, 0] (fin Tryd.prog Tryd.f31))) x0 H := by kernel_rfl
  have e0 : (fun env H => aloopK (acodeK S Tryd.prog C n 15 (cAt f31_c [1, 0, 1, 0, 0])) n env H (kAt S Tryd.prog C n 15 f31_c [1, 0, 1, 0] (fin Tryd.prog Tryd.f31))) = (fun env H => f31_L0 S C n n (env 1) (env 2) (env 4) H) := by funext env H; exact f31_L0_eq S C n n env H
  rw [e0] at h1
  exact h1.trans (by kernel_rfl)


theorem f31_eq {E : Ext} (hE : E 31 = none) (n : Nat) (x0 : Value) (H : Heap) : acall Tryd.prog true E (n + 1) 31 [x0] H = f31 real (acall Tryd.prog true E n) n x0 H :=
  (acall_eq (N := 15) Tryd.func31 (by kernel_rfl) (by kernel_rfl) hE (by kernel_rfl) (by kernel_rfl)).trans (f31_main real _ n x0 H)

noncomputable def f32_c : Code := (Tryd.f32.body).getD .skip

noncomputable def f32_L0 (S : Seam (Value × Heap)) (C : CallF) (n : Nat) : Nat → Value → Value → Value → Value → Value → Heap → Option (Value × Heap)
 | 0, _, _, _, _, _, _ => none
 | m + 1, y7, y8, y9, y10, y11, H12 =>
  S.b (up (binB Tryd.prog .lss 3 y11 y10) H12) fun y13 H14 =>
  S.i y13
  (S.b (up (iAddrS 1 y9 y11) H14) fun y15 H16 =>
  S.b (ldC y15 H16) fun y17 H18 =>
  S.b (up (binB Tryd.prog .quo 5 y17 (.int .u8 64)) H18) fun y19 H20 =>
  S.b (up (iAddrA 4 1 y8 y19) H20) fun y21 H22 =>
  S.b (ldC y21 H22) fun y23 H24 =>
  S.b (up (binB Tryd.prog .rem 5 y17 (.int .u8 64)) H24) fun y25 H26 =>
  S.b (up (binB Tryd.prog .shl 54 (.int .u64 1) y25) H26) fun y27 H28 =>
  S.b (up (binB Tryd.prog .or 54 y23 y27) H28) fun y29 H30 =>
  S.b (up (iAddrA 4 1 y8 y19) H30) fun y31 H32 =>
  S.b (stV 1 y31 y29 H32) fun _ H33 =>
  S.b (up (binB Tryd.prog .add 3 y11 (.int .i64 1)) H33) fun y34 H35 =>
  f32_L0 S C n m y7 y8 y9 y10 y34 H35)
  (S.b (ldA 4 y8 H14) fun y36 H37 =>
  S.b (stV 4 y7 y36 H37) fun _ H38 =>
    (resM [(ldA 4 y7 H38).map (·.1)]).map fun l => (one l, H38))

theorem f32_L0_eq (S : Seam (Value × Heap)) (C : CallF) (n : Nat) : ∀ (m : Nat) (env : Env) (H : Heap), aloopK (acodeK S Tryd.prog C n 23 (cAt f32_c [1, 1, 0, 1, 0, 0])) m env H (kAt S Tryd.prog C n 23 f32_c [1, 1, 0, 1, 0] (fin Tryd.prog Tryd.f32)) = f32_L0 S C n m (env 2) (env 3) (env 6) (env 7) (env 8) H := by
  intro m env H
  refine aloopK_eq (L := fun m env H => f32_L0 S C n m (env 2) (env 3) (env 6) (env 7) (env 8) H) (fun env H => rfl) (fun m env H => ?_) m env H
  kernel_rfl


noncomputable def f32 (S : Seam (Value × Heap)) (C : CallF) (n : Nat) (x0 : Value) (H : Heap) : Option (Value × Heap) :=
 S.b (newV [(.int .u64 0), (.int .u64 0), (.int .u64 0), (.int .u64 0)] H) fun y1 H2 =>
 S.b (newV [(.int .u64 0), (.int .u64 0), (.int .u64 0), (.int .u64 0)] H2) fun y3 H4 =>
 S.b (up (lenS x0) H4) fun y5 H6 =>
 f32_L0 S C n n y1 y3 x0 y5 (.int .i64 0) H6

noncomputable def f32G (S : Seam (Value × Heap)) (C : CallF) (n : Nat) (P0 : Env → Heap → Option (Value × Heap)) (x0 : Value) (H : Heap) : Option (Value × Heap) :=
 S.b (newV [(.int .u64 0), (.int .u64 0), (.int .u64 0), (.int .u64 0)] H) fun y39 H40 =>
 S.b (newV [(.int .u64 0), (.int .u64 0), (.int .u64 0), (.int .u64 0)] H40) fun y41 H42 =>
 S.b (up (lenS x0) H42) fun y43 H44 =>
 P0 (putE 23 (putE 23 (putE 23 (putE 23 (putE 23 (env0 [x0]) (some 2) y39) (some 3) y41) (some 6) x0) (some 7) y43) (some 8) (.int .i64 0)) H44

theorem f32_main (S : Seam (Value × Heap)) (C : CallF) (n : Nat) (x0 : Value) (H : Heap) : acodeK S Tryd.prog C n 23 f32_c (env0 [x0]) H (fin Tryd.prog Tryd.f32) = f32 S C n x0 H := by
  have h1 : acodeK S Tryd.prog C n 23 f32_c (env0 [x0]) H (fin Tryd.prog Tryd.f32) = f32G S C n (fun env H => aloopK (acodeK S Tryd.prog C n 23 (cAt f32_c [1, 1, 0, 1, 0, 0])) n env H (kAt S Tryd.prog C n 23 f32_c [1, 1, 0, 1, 0] (fin Tryd.prog Tryd.f32))) x0 H := by kernel_rfl
  have e0 : (fun env H => aloopK (acodeK S Tryd.prog C n 23 (cAt f32_c [1, 1, 0, 1, 0, 0])) n env H (kAt S Tryd.prog C n 23 f32_c [1, 1, 0, 1, 0] (fin Tryd.prog Tryd.f32))) = (fun env H => f32_L0 S C n n (env 2) (env 3) (env 6) (env 7) (env 8) H) := by funext env H; exact f32_L0_eq S C n n env H
  rw [e0] at h1
  exact h1.trans (by kernel_rfl)


theorem f32_eq {E : Ext} (hE : E 32 = none) (n : Nat) (x0 : Value) (H : Heap) : acall Tryd.prog true E (n + 1) 32 [x0] H = f32 real (acall Tryd.prog true E n) n x0 H :=
  (acall_eq (N := 23) Tryd.func32 (by kernel_rfl) (by kernel_rfl) hE (by kernel_rfl) (by kernel_rfl)).trans (f32_main real _ n x0 H)

noncomputable def f33_c : Code := (Tryd.f33.body).getD .skip

noncomputable def f33_L0 (S : Seam (Value × Heap)) (C : CallF) (n : Nat) : Nat → Value → Value → Value → Value → Heap → Option (Value × Heap)
 | 0, _, _, _, _, _ => none
 | m + 1, y7, y8, y9, y10, H11 =>
  S.b (cvI .i64 y7 H11) fun y12 H13 =>
  S.b (up (binB Tryd.prog .leq 3 y10 y12) H13) fun y14 H15 =>
  S.i y14
  (S.b (up (binB Tryd.prog .quo 3 y10 (.int .i64 64)) H15) fun y16 H17 =>
  S.b (up (iAddrA 4 1 y9 y16) H17) fun y18 H19 =>
  S.c true (S.b (ldC y18 H19) fun y20 H21 =>
  S.b (up (binB Tryd.prog .rem 3 y10 (.int .i64 64)) H21) fun y22 H23 =>
  S.b (up (binB Tryd.prog .shl 54 (.int .u64 1) y22) H23) fun y24 H25 =>
  S.b (up (binB Tryd.prog .or 54 y20 y24) H25) fun y26 H27 =>
  S.b (up (iAddrA 4 1 y9 y16) H27) fun y28 H29 =>
  S.b (stV 1 y28 y26 H29) fun _ H30 =>
  S.c true (S.b (up (binB Tryd.prog .add 3 y10 (.int .i64 1)) H30) fun y31 H32 =>
  f33_L0 S C n m y7 y8 y9 y31 H32)))
  (S.b (ldA 4 y9 H15) fun y33 H34 =>
  S.b (stV 4 y8 y33 H34) fun _ H35 =>
    (resM [(ldA 4 y8 H35).map (·.1)]).map fun l => (one l, H35))

theorem f33_L0_eq (S : Seam (Value × Heap)) (C : CallF) (n : Nat) : ∀ (m : Nat) (env : Env) (H : Heap), aloopK (acodeK S Tryd.prog C n 25 (cAt f33_c [1, 1, 0, 1, 0, 0])) m env H (kAt S Tryd.prog C n 25 f33_c [1, 1, 0, 1, 0] (fin Tryd.prog Tryd.f33)) = f33_L0 S C n m (env 1) (env 4) (env 5) (env 6) H := by
  intro m env H
  refine aloopK_eq (L := fun m env H => f33_L0 S C n m (env 1) (env 4) (env 5) (env 6) H) (fun env H => rfl) (fun m env H => ?_) m env H
  kernel_rfl


noncomputable def f33 (S : Seam (Value × Heap)) (C : CallF) (n : Nat) (x0 : Value) (x1 : Value) (H : Heap) : Option (Value × Heap) :=
 S.b (newV [(.int .u64 0), (.int .u64 0), (.int .u64 0), (.int .u64 0)] H) fun y1 H2 =>
 S.b (newV [(.int .u64 0), (.int .u64 0), (.int .u64 0), (.int .u64 0)] H2) fun y3 H4 =>
 S.b (cvI .i64 x0 H4) fun y5 H6 =>
 f33_L0 S C n n x1 y1 y3 y5 H6

noncomputable def f33G (S : Seam (Value × Heap)) (C : CallF) (n : Nat) (P0 : Env → Heap → Option (Value × Heap)) (x0 : Value) (x1 : Value) (H : Heap) : Option (Value × Heap) :=
 S.b (newV [(.int .u64 0), (.int .u64 0), (.int .u64 0), (.int .u64 0)] H) fun y36 H37 =>
 S.b (newV [(.int .u64 0), (.int .u64 0), (.int .u64 0), (.int .u64 0)] H37) fun y38 H39 =>
 S.b (cvI .i64 x0 H39) fun y40 H41 =>
 P0 (putE 25 (putE 25 (putE 25 (putE 25 (putE 25 (env0 [x0, x1]) (some 4) y36) (some 5) y38) (some 7) x0) (some 8) y40) (some 6) y40) H41

theorem f33_main (S : Seam (Value × Heap)) (C : CallF) (n : Nat) (x0 : Value) (x1 : Value) (H : Heap) : acodeK S Tryd.prog C n 25 f33_c (env0 [x0, x1]) H (fin Tryd.prog Tryd.f33) = f33 S C n x0 x1 H := by
  have h1 : acodeK S Tryd.prog C n 25 f33_c (env0 [x0, x1]) H (fin Tryd.prog Tryd.f33) = f33G S C n (fun env H => aloopK (acodeK S Tryd.prog C n 25 (cAt f33_c [1, 1, 0, 1, 0, 0])) n env H (kAt S Tryd.prog C n 25 f33_c [1, 1, 0, 1, 0] (fin Tryd.prog Tryd.f33))) x0 x1 H := by kernel_rfl
  have e0 : (fun env H => aloopK (acodeK S Tryd.prog C n 25 (cAt f33_c [1, 1, 0, 1, 0, 0])) n env H (kAt S Tryd.prog C n 25 f33_c [1, 1, 0, 1, 0] (fin Tryd.prog Tryd.f33))) = (fun env H => f33_L0 S C n n (env 1) (env 4) (env 5) (env 6) H) := by funext env H; exact f33_L0_eq S C n n env H
  rw [e0] at h1
  exact h1.trans (by kernel_rfl)


theorem f33_eq {E : Ext} (hE : E 33 = none) (n : Nat) (x0 : Value) (x1 : Value) (H : Heap) : acall Tryd.prog true E (n + 1) 33 [x0, x1] H = f33 real (acall Tryd.prog true E n) n x0 x1 H :=
  (acall_eq (N := 25) Tryd.func33 (by kernel_rfl) (by kernel_rfl) hE (by kernel_rfl) (by kernel_rfl)).trans (f33_main real _ n x0 x1 H)

noncomputable def f34_c : Code := (Tryd.f34.body).getD .skip

noncomputable def f34 (S : Seam (Value × Heap)) (C : CallF) (n : Nat) (x0 : Value) (H : Heap) : Option (Value × Heap) :=
 S.b (newV [(.slice none 0 0)] H) fun y1 H2 =>
 S.b (C 24 [x0] H2) fun y3 H4 =>
 S.b (extr 0 y3 H4) fun y5 H6 =>
 S.b (extr 1 y3 H6) fun y7 H8 =>
 S.b (extr 2 y3 H8) fun y9 H10 =>
 S.b (newV [(.slice none 0 0)] H10) fun y11 H12 =>
 S.b (stV 1 y11 y5 H12) fun _ H13 =>
 S.b (up (binB Tryd.prog .neq 26 y9 (.int .i64 0)) H13) fun y14 H15 =>
 S.i y14
 (S.b (bld [(.slice none 0 0)] [] H15) fun y16 H17 =>
  S.b (stV 1 y1 y16 H17) fun _ H18 =>
  (resM [(ldA 1 y1 H18).map (·.1)]).map fun l => (one l, H18))
 (S.b (ldA 1 y11 H15) fun y19 H20 =>
  S.b (stV 1 y1 y19 H20) fun _ H21 =>
  (resM [(ldA 1 y1 H21).map (·.1)]).map fun l => (one l, H21))

theorem f34_main (S : Seam (Value × Heap)) (C : CallF) (n : Nat) (x0 : Value) (H : Heap) : acodeK S Tryd.prog C n 16 f34_c (env0 [x0]) H (fin Tryd.prog Tryd.f34) = f34 S C n x0 H := by
  kernel_rfl


theorem f34_eq {E : Ext} (hE : E 34 = none) (n : Nat) (x0 : Value) (H : Heap) : acall Tryd.prog true E (n + 1) 34 [x0] H = f34 real (acall Tryd.prog true E n) n x0 H :=
  (acall_eq (N := 16) Tryd.func34 (by kernel_rfl) (by kernel_rfl) hE (by kernel_rfl) (by kernel_rfl)).trans (f34_main real _ n x0 H)

noncomputable def f36_c : Code := (Tryd.f36.body).getD .skip

noncomputable def f36_J1 (S : Seam (Value × Heap)) (C : CallF) (n : Nat) (y24 y25 y26 : Value) (H27 : Heap) : Option (Value × Heap) :=
 S.b (up (fAddr 0 y25) H27) fun y28 H29 =>
 S.b (ldC y28 H29) fun y30 H31 =>
 S.b (C 56 [y24, y30] H31) fun y32 H33 =>
 S.i y32
 (S.b (up (binB Tryd.prog .add 9 (.string ⟨#[40]⟩) y26) H33) fun y34 H35 =>
  S.b (up (binB Tryd.prog .add 9 y34 (.string ⟨#[41]⟩)) H35) fun y36 H37 =>
  some (y36, H37))
 (some (y26, H33))

noncomputable def f36 (S : Seam (Value × Heap)) (C : CallF) (n : Nat) (x0 : Value) (x1 : Value) (x2 : Value) (H : Heap) : Option (Value × Heap) :=
 S.b (up (iAddrS 7 x0 x1) H) fun y1 H2 =>
 S.b (ldA 7 y1 H2) fun y3 H4 =>
 S.b (newV [(.int .i64 0), (.int .u64 0), (.int .u64 0), (.int .u64 0), (.int .u64 0), (.int .i64 0), (.int .i64 0)] H4) fun y5 H6 =>
 S.b (stV 7 y5 y3 H6) fun _ H7 =>
 S.b (up (fAddr 0 y5) H7) fun y8 H9 =>
 S.b (ldC y8 H9) fun y10 H11 =>
 S.b (up (binB Tryd.prog .eql 3 y10 (.int .i64 2)) H11) fun y12 H13 =>
 S.i y12
 (S.b (up (fAddr 1 y5) H13) fun y14 H15 =>
  S.b (ldA 4 y14 H15) fun y16 H17 =>
  S.b (C 55 [y16] H17) fun y18 H19 =>
  f36_J1 S C n x2 y5 y18 H19)
 (S.b (up (binB Tryd.prog .eql 3 y10 (.int .i64 3)) H13) fun y38 H39 =>
  S.i y38
  (S.b (up (fAddr 5 y5) H39) fun y40 H41 =>
  S.c true (S.b (ldC y40 H41) fun y42 H43 =>
  S.b (bldS 1 1 [(.int .i64 0)] [(0, 1, (.int .i64 4))] H43) fun y44 H45 =>
  S.b (C 36 [x0, y42, y44] H45) fun y46 H47 =>
  S.c true (S.b (up (fAddr 6 y5) H47) fun y48 H49 =>
  S.c ((sameBlk H45 H47 (blkOf y48)) && true) (S.b (ldC y48 H49) fun y50 H51 =>
  S.b (bldS 1 2 [(.int .i64 0)] [(0, 1, (.int .i64 4)), (1, 1, (.int .i64 3))] H51) fun y52 H53 =>
  S.b (C 36 [x0, y50, y52] H53) fun y54 H55 =>
  S.c true (S.b (up (binB Tryd.prog .add 9 y46 y54) H55) fun y56 H57 =>
  f36_J1 S C n x2 y5 y56 H57)))))
  (S.b (up (binB Tryd.prog .eql 3 y10 (.int .i64 4)) H39) fun y58 H59 =>
  S.i y58
  (S.b (up (fAddr 5 y5) H59) fun y60 H61 =>
  S.c true (S.b (ldC y60 H61) fun y62 H63 =>
  S.b (C 36 [x0, y62, (.slice none 0 0)] H63) fun y64 H65 =>
  S.c true (S.b (up (binB Tryd.prog .add 9 y64 (.string ⟨#[124]⟩)) H65) fun y66 H67 =>
  S.b (up (fAddr 6 y5) H67) fun y68 H69 =>
  S.c ((sameBlk H63 H65 (blkOf y68)) && true) (S.b (ldC y68 H69) fun y70 H71 =>
  S.b (bldS 1 1 [(.int .i64 0)] [(0, 1, (.int .i64 4))] H71) fun y72 H73 =>
  S.b (C 36 [x0, y70, y72] H73) fun y74 H75 =>
  S.c true (S.b (up (binB Tryd.prog .add 9 y66 y74) H75) fun y76 H77 =>
  f36_J1 S C n x2 y5 y76 H77)))))
  (S.b (up (binB Tryd.prog .eql 3 y10 (.int .i64 5)) H59) fun y78 H79 =>
  S.i y78
  (S.b (up (fAddr 5 y5) H79) fun y80 H81 =>
  S.b (ldC y80 H81) fun y82 H83 =>
  S.b (bldS 1 2 [(.int .i64 0)] [(0, 1, (.int .i64 4)), (1, 1, (.int .i64 3))] H83) fun y84 H85 =>
  S.b (C 36 [x0, y82, y84] H85) fun y86 H87 =>
  S.b (up (binB Tryd.prog .add 9 y86 (.string ⟨#[42]⟩)) H87) fun y88 H89 =>
  f36_J1 S C n x2 y5 y88 H89)
  (S.b (up (binB Tryd.prog .eql 3 y10 (.int .i64 6)) H79) fun y90 H91 =>
  S.i y90
  (S.b (up (fAddr 5 y5) H91) fun y92 H93 =>
  S.b (ldC y92 H93) fun y94 H95 =>
  S.b (bldS 1 2 [(.int .i64 0)] [(0, 1, (.int .i64 4)), (1, 1, (.int .i64 3))] H95) fun y96 H97 =>
  S.b (C 36 [x0, y94, y96] H97) fun y98 H99 =>
  S.b (up (binB Tryd.prog .add 9 y98 (.string ⟨#[43]⟩)) H99) fun y100 H101 =>
  f36_J1 S C n x2 y5 y100 H101)
  (f36_J1 S C n x2 y5 (.string ⟨#[40, 41]⟩) H91)))))

theorem f36_main (S : Seam (Value × Heap)) (C : CallF) (n : Nat) (x0 : Value) (x1 : Value) (x2 : Value) (H : Heap) : acodeK S Tryd.prog C n 70 f36_c (env0 [x0, x1, x2]) H (fin Tryd.prog Tryd.f36) = f36 S C n x0 x1 x2 H := by
  kernel_rfl


theorem f36_eq {E : Ext} (hE : E 36 = none) (n : Nat) (x0 : Value) (x1 : Value) (x2 : Value) (H : Heap) : acall Tryd.prog true E (n + 1) 36 [x0, x1, x2] H = f36 real (acall Tryd.prog true E n) n x0 x1 x2 H :=
  (acall_eq (N := 70) Tryd.func36 (by kernel_rfl) (by kernel_rfl) hE (by kernel_rfl) (by kernel_rfl)).trans (f36_main real _ n x0 x1 x2 H)

noncomputable def f38_c : Code := (Tryd.f38.body).getD .skip

noncomputable def f38_J1 (S : Seam (Value × Heap)) (C : CallF) (n : Nat) (y92 y93 y94 y95 : Value) (H96 : Heap) : Option (Value × Heap) :=
 S.i y95
 (S.b (up (binB Tryd.prog .sub 3 y93 (.int .i64 1)) H96) fun y97 H98 =>
  S.b (C 38 [y92, y97] H98) fun y99 H100 =>
  S.b (up (binB Tryd.prog .eql 3 y99 (.int .i64 0)) H100) fun y101 H102 =>
  S.b (gd (wd y101 false) (up (fAddr 6 y94) H102) H102) fun y103 H104 =>
  S.b (gd (wd y101 false) (ldC y103 H104) H104) fun y105 H106 =>
  S.b (gd (wd y101 false) (some (y93, H106)) H106) fun y107 H108 =>
  S.b (gd (wd y101 false) (up (binB Tryd.prog .sub 3 y107 (.int .i64 1)) H108) H108) fun y109 H110 =>
  S.b (gd (wd y101 false) (up (binB Tryd.prog .neq 3 y105 y109) H110) H110) fun y111 H112 =>
  S.b (pickV y101 (.bool true) y111 H112) fun y113 H114 =>
  S.b (gd (wd y113 false) (up (fAddr 5 y94) H114) H114) fun y115 H116 =>
  S.b (gd (wd y113 false) (ldC y115 H116) H116) fun y117 H118 =>
  S.b (gd (wd y113 false) (some (y93, H118)) H118) fun y119 H120 =>
  S.b (gd (wd y113 false) (up (binB Tryd.prog .sub 3 y119 (.int .i64 1)) H120) H120) fun y121 H122 =>
  S.b (gd (wd y113 false) (some (y99, H122)) H122) fun y123 H124 =>
  S.b (gd (wd y113 false) (up (binB Tryd.prog .sub 3 y121 y123) H124) H124) fun y125 H126 =>
  S.b (gd (wd y113 false) (up (binB Tryd.prog .neq 3 y117 y125) H126) H126) fun y127 H128 =>
  S.b (pickV y113 (.bool true) y127 H128) fun y129 H130 =>
  S.i y129
  (some ((.int .i64 0), H130))
  (S.b (up (binB Tryd.prog .sub 3 y93 (.int .i64 1)) H130) fun y131 H132 =>
  S.b (up (binB Tryd.prog .sub 3 y131 y99) H132) fun y133 H134 =>
  S.b (C 38 [y92, y133] H134) fun y135 H136 =>
  S.b (up (binB Tryd.prog .gtr 3 y135 (.int .i64 0)) H136) fun y137 H138 =>
  S.i y137
  (S.b (up (binB Tryd.prog .add 3 y99 y135) H138) fun y139 H140 =>
  S.b (up (binB Tryd.prog .add 3 y139 (.int .i64 1)) H140) fun y141 H142 =>
  some (y141, H142))
  (some ((.int .i64 0), H138))))
 (some ((.int .i64 0), H96))

noncomputable def f38_J2 (S : Seam (Value × Heap)) (C : CallF) (n : Nat) (y56 y57 y58 y59 y60 : Value) (H61 : Heap) : Option (Value × Heap) :=
 S.i y60
 (S.b (up (binB Tryd.prog .sub 3 y57 (.int .i64 1)) H61) fun y62 H63 =>
  S.b (C 38 [y56, y62] H63) fun y64 H65 =>
  S.b (up (binB Tryd.prog .gtr 3 y64 (.int .i64 0)) H65) fun y66 H67 =>
  S.b (gd (wd y66 true) (up (fAddr 5 y58) H67) H67) fun y68 H69 =>
  S.b (gd (wd y66 true) (ldC y68 H69) H69) fun y70 H71 =>
  S.b (gd (wd y66 true) (some (y57, H71)) H71) fun y72 H73 =>
  S.b (gd (wd y66 true) (up (binB Tryd.prog .sub 3 y72 (.int .i64 1)) H73) H73) fun y74 H75 =>
  S.b (gd (wd y66 true) (up (binB Tryd.prog .eql 3 y70 y74) H75) H75) fun y76 H77 =>
  S.b (pickV y66 y76 (.bool false) H77) fun y78 H79 =>
  S.b (gd (wd y78 true) (up (fAddr 6 y58) H79) H79) fun y80 H81 =>
  S.b (gd (wd y78 true) (ldC y80 H81) H81) fun y82 H83 =>
  S.b (gd (wd y78 true) (up (binB Tryd.prog .eql 3 y82 (.int .i64 0)) H83) H83) fun y84 H85 =>
  S.b (pickV y78 y84 (.bool false) H85) fun y86 H87 =>
  S.i y86
  (S.b (up (binB Tryd.prog .add 3 y64 (.int .i64 1)) H87) fun y88 H89 =>
  some (y88, H89))
  (some ((.int .i64 0), H87)))
 (S.b (up (binB Tryd.prog .eql 3 y59 (.int .i64 3)) H61) fun y90 H91 =>
  S.i y90
  (f38_J1 S C n y56 y57 y58 y90 H91)
  (S.b (up (binB Tryd.prog .eql 3 y59 (.int .i64 4)) H91) fun y143 H144 =>
  f38_J1 S C n y56 y57 y58 y143 H144))

noncomputable def f38_J3 (S : Seam (Value × Heap)) (C : CallF) (n : Nat) (y32 y33 y34 y35 y36 : Value) (H37 : Heap) : Option (Value × Heap) :=
 S.i y36
 (S.b (up (fAddr 5 y34) H37) fun y38 H39 =>
  S.b (ldC y38 H39) fun y40 H41 =>
  S.b (up (binB Tryd.prog .eql 3 y40 (.int .i64 0)) H41) fun y42 H43 =>
  S.b (gd (wd y42 true) (up (fAddr 6 y34) H43) H43) fun y44 H45 =>
  S.b (gd (wd y42 true) (ldC y44 H45) H45) fun y46 H47 =>
  S.b (gd (wd y42 true) (up (binB Tryd.prog .eql 3 y46 (.int .i64 0)) H47) H47) fun y48 H49 =>
  S.b (pickV y42 y48 (.bool false) H49) fun y50 H51 =>
  S.i y50
  (some ((.int .i64 1), H51))
  (some ((.int .i64 0), H51)))
 (S.b (up (binB Tryd.prog .eql 3 y35 (.int .i64 5)) H37) fun y54 H55 =>
  S.i y54
  (f38_J2 S C n y32 y33 y34 y35 y54 H55)
  (S.b (up (binB Tryd.prog .eql 3 y35 (.int .i64 6)) H55) fun y145 H146 =>
  f38_J2 S C n y32 y33 y34 y35 y145 H146))

noncomputable def f38 (S : Seam (Value × Heap)) (C : CallF) (n : Nat) (x0 : Value) (x1 : Value) (H : Heap) : Option (Value × Heap) :=
 S.b (up (binB Tryd.prog .lss 3 x1 (.int .i64 0)) H) fun y1 H2 =>
 S.i y1
 (some ((.int .i64 0), H2))
 (S.b (up (iAddrS 7 x0 x1) H2) fun y3 H4 =>
  S.b (ldA 7 y3 H4) fun y5 H6 =>
  S.b (newV [(.int .i64 0), (.int .u64 0), (.int .u64 0), (.int .u64 0), (.int .u64 0), (.int .i64 0), (.int .i64 0)] H6) fun y7 H8 =>
  S.b (stV 7 y7 y5 H8) fun _ H9 =>
  S.b (up (fAddr 0 y7) H9) fun y10 H11 =>
  S.b (ldC y10 H11) fun y12 H13 =>
  S.b (up (binB Tryd.prog .neq 3 y12 (.int .i64 2)) H13) fun y14 H15 =>
  S.b (gd (wd y14 true) (up (fAddr 1 y7) H15) H15) fun y16 H17 =>
  S.b (gd (wd y14 true) (ldA 4 y16 H17) H17) fun y18 H19 =>
  S.b (gd (wd y14 true) (bld [(.int .u64 0), (.int .u64 0), (.int .u64 0), (.int .u64 0)] [] H19) H19) fun y20 H21 =>
  S.b (gd (wd y14 true) (up (binB Tryd.prog .neq 56 y18 y20) H21) H21) fun y22 H23 =>
  S.b (pickV y14 y22 (.bool false) H23) fun y24 H25 =>
  S.i y24
  (some ((.int .i64 0), H25))
  (S.b (up (fAddr 0 y7) H25) fun y26 H27 =>
  S.b (ldC y26 H27) fun y28 H29 =>
  S.b (up (binB Tryd.prog .eql 3 y28 (.int .i64 1)) H29) fun y30 H31 =>
  S.i y30
  (f38_J3 S C n x0 x1 y7 y28 y30 H31)
  (S.b (up (binB Tryd.prog .eql 3 y28 (.int .i64 2)) H31) fun y147 H148 =>
  f38_J3 S C n x0 x1 y7 y28 y147 H148)))

theorem f38_main (S : Seam (Value × Heap)) (C : CallF) (n : Nat) (x0 : Value) (x1 : Value) (H : Heap) : acodeK S Tryd.prog C n 97 f38_c (env0 [x0, x1]) H (fin Tryd.prog Tryd.f38) = f38 S C n x0 x1 H := by
  kernel_rfl


theorem f38_eq {E : Ext} (hE : E 38 = none) (n : Nat) (x0 : Value) (x1 : Value) (H : Heap) : acall Tryd.prog true E (n + 1) 38 [x0, x1] H = f38 real (acall Tryd.prog true E n) n x0 x1 H :=
  (acall_eq (N := 97) Tryd.func38 (by kernel_rfl) (by kernel_rfl) hE (by kernel_rfl) (by kernel_rfl)).trans (f38_main real _ n x0 x1 H)

noncomputable def f40_c : Code := (Tryd.f40.body).getD .skip

noncomputable def f40 (S : Seam (Value × Heap)) (C : CallF) (n : Nat) (H : Heap) : Option (Value × Heap) :=
 S.b (newV [(.slice none 0 0)] H) fun y1 H2 =>
 S.b (bld [(.int .i64 0), (.int .u64 0), (.int .u64 0), (.int .u64 0), (.int .u64 0), (.int .i64 0), (.int .i64 0)] [(0, 1, (.int .i64 1))] H2) fun y3 H4 =>
 S.b (bldS 7 1 [(.int .i64 0), (.int .u64 0), (.int .u64 0), (.int .u64 0), (.int .u64 0), (.int .i64 0), (.int .i64 0)] [(0, 7, y3)] H4) fun y5 H6 =>
 S.b (bld [(.slice none 0 0)] [(0, 1, y5)] H6) fun y7 H8 =>
 S.b (stV 1 y1 y7 H8) fun _ H9 =>
 (resM [(ldA 1 y1 H9).map (·.1)]).map fun l => (one l, H9)

theorem f40_main (S : Seam (Value × Heap)) (C : CallF) (n : Nat) (H : Heap) : acodeK S Tryd.prog C n 4 f40_c (env0 []) H (fin Tryd.prog Tryd.f40) = f40 S C n H := by
  kernel_rfl


theorem f40_eq {E : Ext} (hE : E 40 = none) (n : Nat) (H : Heap) : acall Tryd.prog true E (n + 1) 40 [] H = f40 real (acall Tryd.prog true E n) n H :=
  (acall_eq (N := 4) Tryd.func40 (by kernel_rfl) (by kernel_rfl) hE (by kernel_rfl) (by kernel_rfl)).trans (f40_main real _ n H)

noncomputable def f41_c : Code := (Tryd.f41.body).getD .skip

noncomputable def f41_J1 (S : Seam (Value × Heap)) (C : CallF) (n : Nat) (R0 : Value→Value→Value→Value→Heap→Option (Value × Heap)) (y98 y99 y100 y101 : Value) (H102 : Heap) : Option (Value × Heap) :=
 S.b (up (binB Tryd.prog .add 3 y101 (.int .i64 1)) H102) fun y103 H104 =>
 R0 y98 y99 y100 y103 H104

noncomputable def f41_J2 (S : Seam (Value × Heap)) (C : CallF) (n : Nat) (R0 : Value→Value→Value→Value→Heap→Option (Value × Heap)) (y68 y69 y70 y71 y72 y73 : Value) (H74 : Heap) : Option (Value × Heap) :=
 S.b (nilC y68 H74) fun y75 H76 =>
 S.b (up (fAddr 1 y75) H76) fun y77 H78 =>
 S.c true (S.b (ldC y77 H78) fun y79 H80 =>
 S.b (up (fAddr 5 y70) H80) fun y81 H82 =>
 S.c true (S.b (ldC y81 H82) fun y83 H84 =>
 S.b (up (iAddrS 1 y79 y83) H84) fun y85 H86 =>
 S.b (stV 1 y85 y69 H86) fun _ H87 =>
 S.c true (f41_J1 S C n R0 y68 y71 y72 y73 H87)))

noncomputable def f41_J3 (S : Seam (Value × Heap)) (C : CallF) (n : Nat) (R0 : Value→Value→Value→Value→Heap→Option (Value × Heap)) (y107 y108 y109 y110 y111 y112 y113 : Value) (H114 : Heap) : Option (Value × Heap) :=
 S.i y113
 (f41_J2 S C n R0 y107 y108 y109 y110 y111 y112 H114)
 (f41_J1 S C n R0 y107 y110 y111 y112 H114)

noncomputable def f41_J4 (S : Seam (Value × Heap)) (C : CallF) (n : Nat) (R0 : Value→Value→Value→Value→Heap→Option (Value × Heap)) (y39 y40 y41 y42 y43 y44 y45 y46 : Value) (H47 : Heap) : Option (Value × Heap) :=
 S.i y46
 (S.b (nilC y39 H47) fun y48 H49 =>
  S.b (up (fAddr 1 y48) H49) fun y50 H51 =>
  S.c true (S.b (ldC y50 H51) fun y52 H53 =>
  S.b (up (fAddr 6 y41) H53) fun y54 H55 =>
  S.c true (S.b (ldC y54 H55) fun y56 H57 =>
  S.b (up (iAddrS 1 y52 y56) H57) fun y58 H59 =>
  S.b (stV 1 y58 y40 H59) fun _ H60 =>
  S.c true (f41_J2 S C n R0 y39 y40 y41 y42 y43 y44 H60))))
 (S.b (up (binB Tryd.prog .eql 3 y45 (.int .i64 5)) H47) fun y105 H106 =>
  S.i y105
  (f41_J3 S C n R0 y39 y40 y41 y42 y43 y44 y105 H106)
  (S.b (up (binB Tryd.prog .eql 3 y45 (.int .i64 6)) H106) fun y115 H116 =>
  f41_J3 S C n R0 y39 y40 y41 y42 y43 y44 y115 H116))

noncomputable def f41_L0 (S : Seam (Value × Heap)) (C : CallF) (n : Nat) : Nat → Value → Value → Value → Value → Heap → Option (Value × Heap)
 | 0, _, _, _, _, _ => none
 | m + 1, y19, y20, y21, y22, H23 =>
  S.b (up (binB Tryd.prog .lss 3 y22 y21) H23) fun y24 H25 =>
  S.i y24
  (S.b (up (iAddrS 7 y20 y22) H25) fun y26 H27 =>
  S.b (ldA 7 y26 H27) fun y28 H29 =>
  S.b (newV [(.int .i64 0), (.int .u64 0), (.int .u64 0), (.int .u64 0), (.int .u64 0), (.int .i64 0), (.int .i64 0)] H29) fun y30 H31 =>
  S.b (stV 7 y30 y28 H31) fun _ H32 =>
  S.b (up (fAddr 0 y30) H32) fun y33 H34 =>
  S.b (ldC y33 H34) fun y35 H36 =>
  S.b (up (binB Tryd.prog .eql 3 y35 (.int .i64 3)) H36) fun y37 H38 =>
  S.i y37
  (f41_J4 S C n (f41_L0 S C n m) y19 y22 y30 y20 y21 y22 y35 y37 H38)
  (S.b (up (binB Tryd.prog .eql 3 y35 (.int .i64 4)) H38) fun y117 H118 =>
  f41_J4 S C n (f41_L0 S C n m) y19 y22 y30 y20 y21 y22 y35 y117 H118))
  (some (y19, H25))

theorem f41_L0_eq (S : Seam (Value × Heap)) (C : CallF) (n : Nat) : ∀ (m : Nat) (env : Env) (H : Heap), aloopK (acodeK S Tryd.prog C n 51 (cAt f41_c [1, 1, 0, 1, 0, 0])) m env H (kAt S Tryd.prog C n 51 f41_c [1, 1, 0, 1, 0] (fin Tryd.prog Tryd.f41)) = f41_L0 S C n m (env 3) (env 18) (env 19) (env 20) H := by
  intro m env H
  refine aloopK_eq (L := fun m env H => f41_L0 S C n m (env 3) (env 18) (env 19) (env 20) H) (fun env H => rfl) (fun m env H => ?_) m env H
  kernel_rfl


noncomputable def f41 (S : Seam (Value × Heap)) (C : CallF) (n : Nat) (x0 : Value) (H : Heap) : Option (Value × Heap) :=
 S.b (up (lenS x0) H) fun y1 H2 =>
 S.b (mkS 1 8 [(.int .i64 0)] y1 y1 H2) fun y3 H4 =>
 S.b (up (lenS x0) H4) fun y5 H6 =>
 S.b (mkS 1 1 [(.bool false)] y5 y5 H6) fun y7 H8 =>
 S.b (up (lenS x0) H8) fun y9 H10 =>
 S.b (mkS 1 1 [(.bool false)] y9 y9 H10) fun y11 H12 =>
 S.b (bld [(.slice none 0 0), (.slice none 0 0), (.slice none 0 0), (.slice none 0 0)] [(0, 1, x0), (1, 1, y3), (2, 1, y7), (3, 1, y11)] H12) fun y13 H14 =>
 S.b (newV (Value.cells y13).toList H14) fun y15 H16 =>
 S.b (up (lenS x0) H16) fun y17 H18 =>
 f41_L0 S C n n y15 x0 y17 (.int .i64 0) H18

noncomputable def f41G (S : Seam (Value × Heap)) (C : CallF) (n : Nat) (P0 : Env → Heap → Option (Value × Heap)) (x0 : Value) (H : Heap) : Option (Value × Heap) :=
 S.b (up (lenS x0) H) fun y119 H120 =>
 S.b (mkS 1 8 [(.int .i64 0)] y119 y119 H120) fun y121 H122 =>
 S.b (up (lenS x0) H122) fun y123 H124 =>
 S.b (mkS 1 1 [(.bool false)] y123 y123 H124) fun y125 H126 =>
 S.b (up (lenS x0) H126) fun y127 H128 =>
 S.b (mkS 1 1 [(.bool false)] y127 y127 H128) fun y129 H130 =>
 S.b (bld [(.slice none 0 0), (.slice none 0 0), (.slice none 0 0), (.slice none 0 0)] [(0, 1, x0), (1, 1, y121), (2, 1, y125), (3, 1, y129)] H130) fun y131 H132 =>
 S.b (newV (Value.cells y131).toList H132) fun y133 H134 =>
 S.b (up (lenS x0) H134) fun y135 H136 =>
 P0 (putE 51 (putE 51 (putE 51 (putE 51 (putE 51 (putE 51 (putE 51 (putE 51 (putE 51 (putE 51 (putE 51 (putE 51 (putE 51 (putE 51 (putE 51 (putE 51 (putE 51 (env0 [x0]) (some 2) (.pointer none)) (some 6) x0) (some 7) x0) (some 8) y119) (some 9) y121) (some 10) x0) (some 11) y123) (some 12) y125) (some 13) x0) (some 14) y127) (some 15) y129) (some 16) y131) (some 17) y133) (some 3) y133) (some 18) x0) (some 19) y135) (some 20) (.int .i64 0)) H136

theorem f41_main (S : Seam (Value × Heap)) (C : CallF) (n : Nat) (x0 : Value) (H : Heap) : acodeK S Tryd.prog C n 51 f41_c (env0 [x0]) H (fin Tryd.prog Tryd.f41) = f41 S C n x0 H := by
  have h1 : acodeK S Tryd.prog C n 51 f41_c (env0 [x0]) H (fin Tryd.prog Tryd.f41) = f41G S C n (fun env H => aloopK (acodeK S Tryd.prog C n 51 (cAt f41_c [1, 1, 0, 1, 0, 0])) n env H (kAt S Tryd.prog C n 51 f41_c [1, 1, 0, 1, 0] (fin Tryd.prog Tryd.f41))) x0 H := by kernel_rfl
  have e0 : (fun env H => aloopK (acodeK S Tryd.prog C n 51 (cAt f41_c [1, 1, 0, 1, 0, 0])) n env H (kAt S Tryd.prog C n 51 f41_c [1, 1, 0, 1, 0] (fin Tryd.prog Tryd.f41))) = (fun env H => f41_L0 S C n n (env 3) (env 18) (env 19) (env 20) H) := by funext env H; exact f41_L0_eq S C n n env H
  rw [e0] at h1
  exact h1.trans (by kernel_rfl)


theorem f41_eq {E : Ext} (hE : E 41 = none) (n : Nat) (x0 : Value) (H : Heap) : acall Tryd.prog true E (n + 1) 41 [x0] H = f41 real (acall Tryd.prog true E n) n x0 H :=
  (acall_eq (N := 51) Tryd.func41 (by kernel_rfl) (by kernel_rfl) hE (by kernel_rfl) (by kernel_rfl)).trans (f41_main real _ n x0 H)

noncomputable def f42_c : Code := (Tryd.f42.body).getD .skip

noncomputable def f42 (S : Seam (Value × Heap)) (C : CallF) (n : Nat) (x0 : Value) (x1 : Value) (H : Heap) : Option (Value × Heap) :=
 S.b (nilC x0 H) fun y1 H2 =>
 S.b (up (fAddr 2 y1) H2) fun y3 H4 =>
 S.b (ldC y3 H4) fun y5 H6 =>
 S.b (up (iAddrS 1 y5 x1) H6) fun y7 H8 =>
 S.b (ldC y7 H8) fun y9 H10 =>
 S.i y9
 (some (.tuple #[], H10))
 (S.b (nilC x0 H10) fun y11 H12 =>
  S.b (up (fAddr 2 y11) H12) fun y13 H14 =>
  S.b (ldC y13 H14) fun y15 H16 =>
  S.b (up (iAddrS 1 y15 x1) H16) fun y17 H18 =>
  S.b (stV 1 y17 (.bool true) H18) fun _ H19 =>
  S.b (nilC x0 H19) fun y20 H21 =>
  S.b (up (fAddr 0 y20) H21) fun y22 H23 =>
  S.b (ldC y22 H23) fun y24 H25 =>
  S.b (up (iAddrS 7 y24 x1) H25) fun y26 H27 =>
  S.b (ldA 7 y26 H27) fun y28 H29 =>
  S.b (newV [(.int .i64 0), (.int .u64 0), (.int .u64 0), (.int .u64 0), (.int .u64 0), (.int .i64 0), (.int .i64 0)] H29) fun y30 H31 =>
  S.b (stV 7 y30 y28 H31) fun _ H32 =>
  S.b (up (fAddr 0 y30) H32) fun y33 H34 =>
  S.b (ldC y33 H34) fun y35 H36 =>
  S.b (up (binB Tryd.prog .eql 3 y35 (.int .i64 1)) H36) fun y37 H38 =>
  S.i y37
  (S.b (C 58 [x0, x1] H38) fun y39 H40 =>
  some (.tuple #[], H40))
  (S.b (up (binB Tryd.prog .eql 3 y35 (.int .i64 3)) H38) fun y42 H43 =>
  S.i y42
  (S.b (up (fAddr 5 y30) H43) fun y44 H45 =>
  S.b (ldC y44 H45) fun y46 H47 =>
  S.b (C 42 [x0, y46] H47) fun y48 H49 =>
  some (.tuple #[], H49))
  (S.b (up (binB Tryd.prog .eql 3 y35 (.int .i64 4)) H43) fun y50 H51 =>
  S.i y50
  (S.b (up (fAddr 5 y30) H51) fun y52 H53 =>
  S.b (ldC y52 H53) fun y54 H55 =>
  S.b (C 42 [x0, y54] H55) fun y56 H57 =>
  S.b (up (fAddr 6 y30) H57) fun y58 H59 =>
  S.b (ldC y58 H59) fun y60 H61 =>
  S.b (C 42 [x0, y60] H61) fun y62 H63 =>
  some (.tuple #[], H63))
  (S.b (up (binB Tryd.prog .eql 3 y35 (.int .i64 5)) H51) fun y64 H65 =>
  S.i y64
  (S.b (C 58 [x0, x1] H65) fun y66 H67 =>
  S.b (up (fAddr 5 y30) H67) fun y68 H69 =>
  S.b (ldC y68 H69) fun y70 H71 =>
  S.b (C 42 [x0, y70] H71) fun y72 H73 =>
  some (.tuple #[], H73))
  (S.b (up (binB Tryd.prog .eql 3 y35 (.int .i64 6)) H65) fun y74 H75 =>
  S.i y74
  (S.b (up (fAddr 5 y30) H75) fun y76 H77 =>
  S.b (ldC y76 H77) fun y78 H79 =>
  S.b (C 42 [x0, y78] H79) fun y80 H81 =>
  some (.tuple #[], H81))
  (some (.tuple #[], H75)))))))

theorem f42_main (S : Seam (Value × Heap)) (C : CallF) (n : Nat) (x0 : Value) (x1 : Value) (H : Heap) : acodeK S Tryd.prog C n 63 f42_c (env0 [x0, x1]) H (fin Tryd.prog Tryd.f42) = f42 S C n x0 x1 H := by
  kernel_rfl


theorem f42_eq {E : Ext} (hE : E 42 = none) (n : Nat) (x0 : Value) (x1 : Value) (H : Heap) : acall Tryd.prog true E (n + 1) 42 [x0, x1] H = f42 real (acall Tryd.prog true E n) n x0 x1 H :=
  (acall_eq (N := 63) Tryd.func42 (by kernel_rfl) (by kernel_rfl) hE (by kernel_rfl) (by kernel_rfl)).trans (f42_main real _ n x0 x1 H)

noncomputable def f43_c : Code := (Tryd.f43.body).getD .skip

noncomputable def f43_J1 (S : Seam (Value × Heap)) (C : CallF) (n : Nat) (R0 : Value→Value→Value→Value→Value→Value→Heap→Option (Value × Heap)) (y92 y93 y94 y95 y96 y97 : Value) (H98 : Heap) : Option (Value × Heap) :=
 S.b (up (binB Tryd.prog .add 3 y97 (.int .i64 1)) H98) fun y99 H100 =>
 R0 y92 y93 y94 y95 y96 y99 H100

noncomputable def f43_L0 (S : Seam (Value × Heap)) (C : CallF) (n : Nat) : Nat → Value → Value → Value → Value → Value → Value → Heap → Option (Value × Heap)
 | 0, _, _, _, _, _, _, _ => none
 | m + 1, y45, y46, y47, y48, y49, y50, H51 =>
  S.b (up (binB Tryd.prog .lss 3 y50 y49) H51) fun y52 H53 =>
  S.i y52
  (S.b (up (iAddrS 7 y48 y50) H53) fun y54 H55 =>
  S.b (ldA 7 y54 H55) fun y56 H57 =>
  S.b (newV [(.int .i64 0), (.int .u64 0), (.int .u64 0), (.int .u64 0), (.int .u64 0), (.int .i64 0), (.int .i64 0)] H57) fun y58 H59 =>
  S.b (stV 7 y58 y56 H59) fun _ H60 =>
  S.b (up (iAddrS 1 y47 y50) H60) fun y61 H62 =>
  S.b (ldC y61 H62) fun y63 H64 =>
  S.b (gd (wd y63 true) (up (fAddr 0 y58) H64) H64) fun y65 H66 =>
  S.b (gd (wd y63 true) (ldC y65 H66) H66) fun y67 H68 =>
  S.b (gd (wd y63 true) (up (binB Tryd.prog .eql 3 y67 (.int .i64 2)) H68) H68) fun y69 H70 =>
  S.b (pickV y63 y69 (.bool false) H70) fun y71 H72 =>
  S.b (gd (wd y71 true) (up (fAddr 1 y58) H72) H72) fun y73 H74 =>
  S.b (gd (wd y71 true) (ldA 4 y73 H74) H74) fun y75 H76 =>
  S.b (gd (wd y71 true) (some (y46, H76)) H76) fun y77 H78 =>
  S.b (gd (wd y71 true) (C 59 [y75, y77] H78) H78) fun y79 H80 =>
  S.b (pickV y71 y79 (.bool false) H80) fun y81 H82 =>
  S.i y81
  (S.b (C 58 [y45, y50] H82) fun y83 H84 =>
  f43_J1 S C n (f43_L0 S C n m) y45 y46 y47 y48 y49 y50 H84)
  (f43_J1 S C n (f43_L0 S C n m) y45 y46 y47 y48 y49 y50 H82))
  (some (.tuple #[], H53))

theorem f43_L0_eq (S : Seam (Value × Heap)) (C : CallF) (n : Nat) : ∀ (m : Nat) (env : Env) (H : Heap), aloopK (acodeK S Tryd.prog C n 58 (cAt f43_c [1, 1, 1, 0, 0])) m env H (kAt S Tryd.prog C n 58 f43_c [1, 1, 1, 0] (fin Tryd.prog Tryd.f43)) = f43_L0 S C n m (env 0) (env 1) (env 4) (env 32) (env 33) (env 34) H := by
  intro m env H
  refine aloopK_eq (L := fun m env H => f43_L0 S C n m (env 0) (env 1) (env 4) (env 32) (env 33) (env 34) H) (fun env H => rfl) (fun m env H => ?_) m env H
  kernel_rfl


noncomputable def f43 (S : Seam (Value × Heap)) (C : CallF) (n : Nat) (x0 : Value) (x1 : Value) (H : Heap) : Option (Value × Heap) :=
 S.b (nilC x0 H) fun y1 H2 =>
 S.b (up (fAddr 2 y1) H2) fun y3 H4 =>
 S.b (ldC y3 H4) fun y5 H6 =>
 S.b (nilC x0 H6) fun y7 H8 =>
 S.b (up (fAddr 0 y7) H8) fun y9 H10 =>
 S.c true (S.b (ldC y9 H10) fun y11 H12 =>
 S.b (up (lenS y11) H12) fun y13 H14 =>
 S.b (mkS 1 1 [(.bool false)] y13 y13 H14) fun y15 H16 =>
 S.b (nilC x0 H16) fun y17 H18 =>
 S.b (up (fAddr 0 y17) H18) fun y19 H20 =>
 S.c true (S.b (ldC y19 H20) fun y21 H22 =>
 S.b (up (lenS y21) H22) fun y23 H24 =>
 S.b (mkS 1 1 [(.bool false)] y23 y23 H24) fun y25 H26 =>
 S.b (nilC x0 H26) fun y27 H28 =>
 S.b (up (fAddr 2 y27) H28) fun y29 H30 =>
 S.b (stV 1 y29 y15 H30) fun _ H31 =>
 S.c (sameBlk H30 H31 (some H24.n) && true) (S.b (nilC x0 H31) fun y32 H33 =>
  S.b (up (fAddr 3 y32) H33) fun y34 H35 =>
  S.b (stV 1 y34 y25 H35) fun _ H36 =>
  S.c true (S.b (nilC x0 H36) fun y37 H38 =>
  S.b (up (fAddr 0 y37) H38) fun y39 H40 =>
  S.b (ldC y39 H40) fun y41 H42 =>
  S.b (up (lenS y41) H42) fun y43 H44 =>
  f43_L0 S C n n x0 x1 y5 y41 y43 (.int .i64 0) H44))))

noncomputable def f43G (S : Seam (Value × Heap)) (C : CallF) (n : Nat) (P0 : Env → Heap → Option (Value × Heap)) (x0 : Value) (x1 : Value) (H : Heap) : Option (Value × Heap) :=
 S.b (nilC x0 H) fun y101 H102 =>
 S.b (up (fAddr 2 y101) H102) fun y103 H104 =>
 S.b (ldC y103 H104) fun y105 H106 =>
 S.b (nilC x0 H106) fun y107 H108 =>
 S.b (up (fAddr 0 y107) H108) fun y109 H110 =>
 S.c true (S.b (ldC y109 H110) fun y111 H112 =>
 S.b (up (lenS y111) H112) fun y113 H114 =>
 S.b (mkS 1 1 [(.bool false)] y113 y113 H114) fun y115 H116 =>
 S.b (nilC x0 H116) fun y117 H118 =>
 S.b (up (fAddr 0 y117) H118) fun y119 H120 =>
 S.c true (S.b (ldC y119 H120) fun y121 H122 =>
 S.b (up (lenS y121) H122) fun y123 H124 =>
 S.b (mkS 1 1 [(.bool false)] y123 y123 H124) fun y125 H126 =>
 S.b (nilC x0 H126) fun y127 H128 =>
 S.b (up (fAddr 2 y127) H128) fun y129 H130 =>
 S.b (stV 1 y129 y115 H130) fun u131 H132 =>
 S.c (sameBlk H130 H132 (some H124.n) && true) (S.b (nilC x0 H132) fun y133 H134 =>
  S.b (up (fAddr 3 y133) H134) fun y135 H136 =>
  S.b (stV 1 y135 y125 H136) fun u137 H138 =>
  S.c true (S.b (nilC x0 H138) fun y139 H140 =>
  S.b (up (fAddr 0 y139) H140) fun y141 H142 =>
  S.b (ldC y141 H142) fun y143 H144 =>
  S.b (up (lenS y143) H144) fun y145 H146 =>
   P0 (putE 58 (putE 58 (putE 58 (putE 58 (putE 58 (putE 58 (putE 58 (putE 58 (putE 58 (putE 58 (putE 58 (putE 58 (putE 58 (putE 58 (putE 58 (putE 58 (putE 58 (putE 58 (putE 58 (putE 58 (putE 58 (putE 58 (putE 58 (putE 58 (putE 58 (putE 58 (putE 58 (putE 58 (putE 58 (putE 58 (putE 58 (env0 [x0, x1]) (some 7) x0) (some 8) y101) (some 9) y103) (some 10) y105) (some 4) y105) (some 11) x0) (some 12) x0) (some 13) x0) (some 14) y107) (some 15) y109) (some 16) y111) (some 17) y113) (some 18) y115) (some 19) x0) (some 20) y117) (some 21) y119) (some 22) y121) (some 23) y123) (some 24) y125) (some 25) y127) (some 26) y129) none u131) (some 27) y133) (some 28) y135) none u137) (some 29) x0) (some 30) y139) (some 31) y141) (some 32) y143) (some 33) y145) (some 34) (.int .i64 0)) H146))))

theorem f43_main (S : Seam (Value × Heap)) (C : CallF) (n : Nat) (x0 : Value) (x1 : Value) (H : Heap) : acodeK S Tryd.prog C n 58 f43_c (env0 [x0, x1]) H (fin Tryd.prog Tryd.f43) = f43 S C n x0 x1 H := by
  have h1 : acodeK S Tryd.prog C n 58 f43_c (env0 [x0, x1]) H (fin Tryd.prog Tryd.f43) = f43G S C n (fun env H => aloopK (acodeK S Tryd.prog C n 58 (cAt f43_c [1, 1, 1, 0, 0])) n env H (kAt S Tryd.prog C n 58 f43_c [1, 1, 1, 0] (fin Tryd.prog Tryd.f43))) x0 x1 H := by kernel_rfl
  have e0 : (fun env H => aloopK (acodeK S Tryd.prog C n 58 (cAt f43_c [1, 1, 1, 0, 0])) n env H (kAt S Tryd.prog C n 58 f43_c [1, 1, 1, 0] (fin Tryd.prog Tryd.f43))) = (fun env H => f43_L0 S C n n (env 0) (env 1) (env 4) (env 32) (env 33) (env 34) H) := by funext env H; exact f43_L0_eq S C n n env H
  rw [e0] at h1
  exact h1.trans (by kernel_rfl)


theorem f43_eq {E : Ext} (hE : E 43 = none) (n : Nat) (x0 : Value) (x1 : Value) (H : Heap) : acall Tryd.prog true E (n + 1) 43 [x0, x1] H = f43 real (acall Tryd.prog true E n) n x0 x1 H :=
  (acall_eq (N := 58) Tryd.func43 (by kernel_rfl) (by kernel_rfl) hE (by kernel_rfl) (by kernel_rfl)).trans (f43_main real _ n x0 x1 H)

noncomputable def f46_c : Code := (Tryd.f46.body).getD .skip

noncomputable def f46_L0 (S : Seam (Value × Heap)) (C : CallF) (n : Nat) : Nat → Value → Value → Heap → Option (Value × Heap)
 | 0, _, _, _ => none
 | m + 1, y3, y4, H5 =>
  S.b (nilC y3 H5) fun y6 H7 =>
  S.b (up (fAddr 0 y6) H7) fun y8 H9 =>
  S.b (C 67 [y8, (.int .u8 124)] H9) fun y10 H11 =>
  S.i y10
  (S.b (C 66 [y3] H11) fun y12 H13 =>
  S.b (bld [(.int .i64 0), (.int .u64 0), (.int .u64 0), (.int .u64 0), (.int .u64 0), (.int .i64 0), (.int .i64 0)] [(0, 1, (.int .i64 4)), (5, 1, y4), (6, 1, y12)] H13) fun y14 H15 =>
  S.b (C 68 [y3, y14] H15) fun y16 H17 =>
  f46_L0 S C n m y3 y16 H17)
  (some (y4, H11))

theorem f46_L0_eq (S : Seam (Value × Heap)) (C : CallF) (n : Nat) : ∀ (m : Nat) (env : Env) (H : Heap), aloopK (acodeK S Tryd.prog C n 17 (cAt f46_c [1, 1, 0, 0, 0])) m env H (kAt S Tryd.prog C n 17 f46_c [1, 1, 0, 0] (fin Tryd.prog Tryd.f46)) = f46_L0 S C n m (env 0) (env 3) H := by
  intro m env H
  refine aloopK_eq (L := fun m env H => f46_L0 S C n m (env 0) (env 3) H) (fun env H => rfl) (fun m env H => ?_) m env H
  kernel_rfl


noncomputable def f46 (S : Seam (Value × Heap)) (C : CallF) (n : Nat) (x0 : Value) (H : Heap) : Option (Value × Heap) :=
 S.b (C 66 [x0] H) fun y1 H2 =>
 f46_L0 S C n n x0 y1 H2

noncomputable def f46G (S : Seam (Value × Heap)) (C : CallF) (n : Nat) (P0 : Env → Heap → Option (Value × Heap)) (x0 : Value) (H : Heap) : Option (Value × Heap) :=
 S.b (C 66 [x0] H) fun y18 H19 =>
 P0 (putE 17 (putE 17 (putE 17 (putE 17 (env0 [x0]) (some 2) (.int .i64 0)) (some 4) x0) (some 5) y18) (some 3) y18) H19

theorem f46_main (S : Seam (Value × Heap)) (C : CallF) (n : Nat) (x0 : Value) (H : Heap) : acodeK S Tryd.prog C n 17 f46_c (env0 [x0]) H (fin Tryd.prog Tryd.f46) = f46 S C n x0 H := by
  have h1 : acodeK S Tryd.prog C n 17 f46_c (env0 [x0]) H (fin Tryd.prog Tryd.f46) = f46G S C n (fun env H => aloopK (acodeK S Tryd.prog C n 17 (cAt f46_c [1, 1, 0, 0, 0])) n env H (kAt S Tryd.prog C n 17 f46_c [1, 1, 0, 0] (fin Tryd.prog Tryd.f46))) x0 H := by kernel_rfl
  have e0 : (fun env H => aloopK (acodeK S Tryd.prog C n 17 (cAt f46_c [1, 1, 0, 0, 0])) n env H (kAt S Tryd.prog C n 17 f46_c [1, 1, 0, 0] (fin Tryd.prog Tryd.f46))) = (fun env H => f46_L0 S C n n (env 0) (env 3) H) := by funext env H; exact f46_L0_eq S C n n env H
  rw [e0] at h1
  exact h1.trans (by kernel_rfl)


noncomputable def f48_c : Code := (Tryd.f48.body).getD .skip

noncomputable def f48_J1 (S : Seam (Value × Heap)) (C : CallF) (n : Nat) (y47 y48 : Value) (H49 : Heap) : Option (Value × Heap) :=
 S.b (ldA 7 y47 H49) fun y50 H51 =>
 S.b (stV 7 y48 y50 H51) fun _ H52 =>
 (resM [(ldA 7 y48 H52).map (·.1)]).map fun l => (one l, H52)

noncomputable def f48_J2 (S : Seam (Value × Heap)) (C : CallF) (n : Nat) (y20 y21 y22 : Value) (H23 : Heap) : Option (Value × Heap) :=
 S.b (up (fAddr 0 y21) H23) fun y24 H25 =>
 S.b (ldC y24 H25) fun y26 H27 =>
 S.b (up (binB Tryd.prog .eql 3 y26 (.int .i64 3)) H27) fun y28 H29 =>
 S.b (gd (wd y28 false) (up (fAddr 0 y21) H29) H29) fun y30 H31 =>
 S.b (gd (wd y28 false) (ldC y30 H31) H31) fun y32 H33 =>
 S.b (gd (wd y28 false) (up (binB Tryd.prog .eql 3 y32 (.int .i64 4)) H33) H33) fun y34 H35 =>
 S.b (pickV y28 (.bool true) y34 H35) fun y36 H37 =>
 S.i y36
 (S.b (up (fAddr 6 y21) H37) fun y38 H39 =>
  S.b (ldC y38 H39) fun y40 H41 =>
  S.b (up (binB Tryd.prog .add 3 y40 y20) H41) fun y42 H43 =>
  S.b (up (fAddr 6 y21) H43) fun y44 H45 =>
  S.b (stV 1 y44 y42 H45) fun _ H46 =>
  f48_J1 S C n y21 y22 H46)
 (f48_J1 S C n y21 y22 H37)

noncomputable def f48 (S : Seam (Value × Heap)) (C : CallF) (n : Nat) (x0 : Value) (x1 : Value) (H : Heap) : Option (Value × Heap) :=
 S.b (newV (Value.cells x0).toList H) fun y1 H2 =>
 S.b (newV [(.int .i64 0), (.int .u64 0), (.int .u64 0), (.int .u64 0), (.int .u64 0), (.int .i64 0), (.int .i64 0)] H2) fun y3 H4 =>
 S.b (up (fAddr 0 y1) H4) fun y5 H6 =>
 S.b (ldC y5 H6) fun y7 H8 =>
 S.b (up (binB Tryd.prog .geq 3 y7 (.int .i64 3)) H8) fun y9 H10 =>
 S.i y9
 (S.b (up (fAddr 5 y1) H10) fun y11 H12 =>
  S.b (ldC y11 H12) fun y13 H14 =>
  S.b (up (binB Tryd.prog .add 3 y13 x1) H14) fun y15 H16 =>
  S.b (up (fAddr 5 y1) H16) fun y17 H18 =>
  S.b (stV 1 y17 y15 H18) fun _ H19 =>
  f48_J2 S C n x1 y1 y3 H19)
 (f48_J2 S C n x1 y1 y3 H10)

theorem f48_main (S : Seam (Value × Heap)) (C : CallF) (n : Nat) (x0 : Value) (x1 : Value) (H : Heap) : acodeK S Tryd.prog C n 27 f48_c (env0 [x0, x1]) H (fin Tryd.prog Tryd.f48) = f48 S C n x0 x1 H := by
  kernel_rfl


theorem f48_eq {E : Ext} (hE : E 48 = none) (n : Nat) (x0 : Value) (x1 : Value) (H : Heap) : acall Tryd.prog true E (n + 1) 48 [x0, x1] H = f48 real (acall Tryd.prog true E n) n x0 x1 H :=
  (acall_eq (N := 27) Tryd.func48 (by kernel_rfl) (by kernel_rfl) hE (by kernel_rfl) (by kernel_rfl)).trans (f48_main real _ n x0 x1 H)

noncomputable def f55_c : Code := (Tryd.f55.body).getD .skip

noncomputable def f55 (S : Seam (Value × Heap)) (C : CallF) (n : Nat) (x0 : Value) (H : Heap) : Option (Value × Heap) :=
 S.b (newV (Value.cells x0).toList H) fun y1 H2 =>
 S.b (ldA 4 y1 H2) fun y3 H4 =>
 S.b (C 74 [y3] H4) fun y5 H6 =>
 S.b (ldA 4 y1 H6) fun y7 H8 =>
 S.b (C 75 [y7] H8) fun y9 H10 =>
 S.b (extr 0 y9 H10) fun y11 H12 =>
 S.b (extr 1 y9 H12) fun y13 H14 =>
 S.b (up (binB Tryd.prog .eql 3 y5 (.int .i64 0)) H14) fun y15 H16 =>
 S.i y15
 (S.b (ldA 4 y1 H16) fun y17 H18 =>
  S.b (C 31 [y17] H18) fun y19 H20 =>
  S.b (C 76 [y19] H20) fun y21 H22 =>
  S.b (up (binB Tryd.prog .add 9 (.string ⟨#[91, 94]⟩) y21) H22) fun y23 H24 =>
  S.b (up (binB Tryd.prog .add 9 y23 (.string ⟨#[93]⟩)) H24) fun y25 H26 =>
  some (y25, H26))
 (S.b (up (binB Tryd.prog .eql 3 y5 (.int .i64 1)) H16) fun y27 H28 =>
  S.i y27
  (S.b (C 77 [y11, (.string ⟨#[40, 41, 91, 93, 124, 42, 43, 63, 46, 92, 47]⟩)] H28) fun y29 H30 =>
  some (y29, H30))
  (S.c true (S.b (ldA 4 y1 H28) fun y31 H32 =>
  S.b (bldS 1 1 [(.int .u8 0)] [(0, 1, (.int .u8 10))] H32) fun y33 H34 =>
  S.b (C 32 [y33] H34) fun y35 H36 =>
  S.c (sameBlk H34 H36 (blkOf y1) && true) (S.b (C 31 [y35] H36) fun y37 H38 =>
  S.c (sameBlk H36 H38 (blkOf y1) && true) (S.b (up (binB Tryd.prog .eql 56 y31 y37) H38) fun y39 H40 =>
  S.i y39
  (some ((.string ⟨#[46]⟩), H40))
  (S.b (up (binB Tryd.prog .gtr 3 y5 (.int .i64 128)) H40) fun y41 H42 =>
  S.b (gd (wd y41 true) (some (y5, H42)) H42) fun y43 H44 =>
  S.b (gd (wd y41 true) (up (binB Tryd.prog .lss 3 y43 (.int .i64 256)) H44) H44) fun y45 H46 =>
  S.b (pickV y41 y45 (.bool false) H46) fun y47 H48 =>
  S.i y47
  (S.b (ldA 4 y1 H48) fun y49 H50 =>
  S.b (C 31 [y49] H50) fun y51 H52 =>
  S.b (C 76 [y51] H52) fun y53 H54 =>
  S.b (up (binB Tryd.prog .add 9 (.string ⟨#[91, 94]⟩) y53) H54) fun y55 H56 =>
  S.b (up (binB Tryd.prog .add 9 y55 (.string ⟨#[93]⟩)) H56) fun y57 H58 =>
  some (y57, H58))
  (S.b (ldA 4 y1 H48) fun y59 H60 =>
  S.b (C 76 [y59] H60) fun y61 H62 =>
  S.b (up (binB Tryd.prog .add 9 (.string ⟨#[91]⟩) y61) H62) fun y63 H64 =>
  S.b (up (binB Tryd.prog .add 9 y63 (.string ⟨#[93]⟩)) H64) fun y65 H66 =>
  some (y65, H66))))))))

theorem f55_main (S : Seam (Value × Heap)) (C : CallF) (n : Nat) (x0 : Value) (H : Heap) : acodeK S Tryd.prog C n 48 f55_c (env0 [x0]) H (fin Tryd.prog Tryd.f55) = f55 S C n x0 H := by
  kernel_rfl


theorem f55_eq {E : Ext} (hE : E 55 = none) (n : Nat) (x0 : Value) (H : Heap) : acall Tryd.prog true E (n + 1) 55 [x0] H = f55 real (acall Tryd.prog true E n) n x0 H :=
  (acall_eq (N := 48) Tryd.func55 (by kernel_rfl) (by kernel_rfl) hE (by kernel_rfl) (by kernel_rfl)).trans (f55_main real _ n x0 H)

noncomputable def f56_c : Code := (Tryd.f56.body).getD .skip

noncomputable def f56 (S : Seam (Value × Heap)) (C : CallF) (n : Nat) (x0 : Value) (x1 : Value) (H : Heap) : Option (Value × Heap) :=
 S.b (C 78 [x0, x1] H) fun y1 H2 =>
 S.b (up (binB Tryd.prog .geq 3 y1 (.int .i64 0)) H2) fun y3 H4 =>
 some (y3, H4)

theorem f56_main (S : Seam (Value × Heap)) (C : CallF) (n : Nat) (x0 : Value) (x1 : Value) (H : Heap) : acodeK S Tryd.prog C n 9 f56_c (env0 [x0, x1]) H (fin Tryd.prog Tryd.f56) = f56 S C n x0 x1 H := by
  kernel_rfl


theorem f56_eq {E : Ext} (hE : E 56 = none) (n : Nat) (x0 : Value) (x1 : Value) (H : Heap) : acall Tryd.prog true E (n + 1) 56 [x0, x1] H = f56 real (acall Tryd.prog true E n) n x0 x1 H :=
  (acall_eq (N := 9) Tryd.func56 (by kernel_rfl) (by kernel_rfl) hE (by kernel_rfl) (by kernel_rfl)).trans (f56_main real _ n x0 x1 H)

noncomputable def f58_c : Code := (Tryd.f58.body).getD .skip

noncomputable def f58_J1 (S : Seam (Value × Heap)) (C : CallF) (n : Nat) (y96 y97 : Value) (H98 : Heap) : Option (Value × Heap) :=
 S.b (C 58 [y96, y97] H98) fun y99 H100 =>
 some (.tuple #[], H100)

noncomputable def f58 (S : Seam (Value × Heap)) (C : CallF) (n : Nat) (x0 : Value) (x1 : Value) (H : Heap) : Option (Value × Heap) :=
 S.b (nilC x0 H) fun y1 H2 =>
 S.b (up (fAddr 3 y1) H2) fun y3 H4 =>
 S.b (ldC y3 H4) fun y5 H6 =>
 S.b (up (iAddrS 1 y5 x1) H6) fun y7 H8 =>
 S.b (ldC y7 H8) fun y9 H10 =>
 S.i y9
 (some (.tuple #[], H10))
 (S.b (nilC x0 H10) fun y11 H12 =>
  S.b (up (fAddr 3 y11) H12) fun y13 H14 =>
  S.b (ldC y13 H14) fun y15 H16 =>
  S.b (up (iAddrS 1 y15 x1) H16) fun y17 H18 =>
  S.b (stV 1 y17 (.bool true) H18) fun _ H19 =>
  S.b (nilC x0 H19) fun y20 H21 =>
  S.b (up (fAddr 0 y20) H21) fun y22 H23 =>
  S.b (ldC y22 H23) fun y24 H25 =>
  S.b (up (lenS y24) H25) fun y26 H27 =>
  S.b (up (binB Tryd.prog .sub 3 y26 (.int .i64 1)) H27) fun y28 H29 =>
  S.b (up (binB Tryd.prog .eql 3 x1 y28) H29) fun y30 H31 =>
  S.i y30
  (some (.tuple #[], H31))
  (S.b (nilC x0 H31) fun y32 H33 =>
  S.b (up (fAddr 1 y32) H33) fun y34 H35 =>
  S.b (ldC y34 H35) fun y36 H37 =>
  S.b (up (iAddrS 1 y36 x1) H37) fun y38 H39 =>
  S.b (ldC y38 H39) fun y40 H41 =>
  S.b (nilC x0 H41) fun y42 H43 =>
  S.b (up (fAddr 0 y42) H43) fun y44 H45 =>
  S.b (ldC y44 H45) fun y46 H47 =>
  S.b (up (iAddrS 7 y46 y40) H47) fun y48 H49 =>
  S.b (ldA 7 y48 H49) fun y50 H51 =>
  S.b (newV [(.int .i64 0), (.int .u64 0), (.int .u64 0), (.int .u64 0), (.int .u64 0), (.int .i64 0), (.int .i64 0)] H51) fun y52 H53 =>
  S.b (stV 7 y52 y50 H53) fun _ H54 =>
  S.b (up (fAddr 0 y52) H54) fun y55 H56 =>
  S.b (ldC y55 H56) fun y57 H58 =>
  S.b (up (binB Tryd.prog .eql 3 y57 (.int .i64 3)) H58) fun y59 H60 =>
  S.b (gd (wd y59 true) (some (x1, H60)) H60) fun y61 H62 =>
  S.b (gd (wd y59 true) (up (fAddr 5 y52) H62) H62) fun y63 H64 =>
  S.b (gd (wd y59 true) (ldC y63 H64) H64) fun y65 H66 =>
  S.b (gd (wd y59 true) (up (binB Tryd.prog .eql 3 y61 y65) H66) H66) fun y67 H68 =>
  S.b (pickV y59 y67 (.bool false) H68) fun y69 H70 =>
  S.i y69
  (S.b (up (fAddr 6 y52) H70) fun y71 H72 =>
  S.b (ldC y71 H72) fun y73 H74 =>
  S.b (C 42 [x0, y73] H74) fun y75 H76 =>
  some (.tuple #[], H76))
  (S.b (up (fAddr 0 y52) H70) fun y77 H78 =>
  S.b (ldC y77 H78) fun y79 H80 =>
  S.b (up (binB Tryd.prog .eql 3 y79 (.int .i64 5)) H80) fun y81 H82 =>
  S.b (gd (wd y81 false) (up (fAddr 0 y52) H82) H82) fun y83 H84 =>
  S.b (gd (wd y81 false) (ldC y83 H84) H84) fun y85 H86 =>
  S.b (gd (wd y81 false) (up (binB Tryd.prog .eql 3 y85 (.int .i64 6)) H86) H86) fun y87 H88 =>
  S.b (pickV y81 (.bool true) y87 H88) fun y89 H90 =>
  S.i y89
  (S.b (C 42 [x0, x1] H90) fun y91 H92 =>
  f58_J1 S C n x0 y40 H92)
  (f58_J1 S C n x0 y40 H90))))

theorem f58_main (S : Seam (Value × Heap)) (C : CallF) (n : Nat) (x0 : Value) (x1 : Value) (H : Heap) : acodeK S Tryd.prog C n 70 f58_c (env0 [x0, x1]) H (fin Tryd.prog Tryd.f58) = f58 S C n x0 x1 H := by
  kernel_rfl


theorem f58_eq {E : Ext} (hE : E 58 = none) (n : Nat) (x0 : Value) (x1 : Value) (H : Heap) : acall Tryd.prog true E (n + 1) 58 [x0, x1] H = f58 real (acall Tryd.prog true E n) n x0 x1 H :=
  (acall_eq (N := 70) Tryd.func58 (by kernel_rfl) (by kernel_rfl) hE (by kernel_rfl) (by kernel_rfl)).trans (f58_main real _ n x0 x1 H)

noncomputable def f59_c : Code := (Tryd.f59.body).getD .skip

noncomputable def f59 (S : Seam (Value × Heap)) (C : CallF) (n : Nat) (x0 : Value) (x1 : Value) (H : Heap) : Option (Value × Heap) :=
 S.b (newV (Value.cells x0).toList H) fun y1 H2 =>
 S.b (up (binB Tryd.prog .quo 5 x1 (.int .u8 64)) H2) fun y3 H4 =>
 S.b (up (iAddrA 4 1 y1 y3) H4) fun y5 H6 =>
 S.b (ldC y5 H6) fun y7 H8 =>
 S.b (up (binB Tryd.prog .rem 5 x1 (.int .u8 64)) H8) fun y9 H10 =>
 S.b (up (binB Tryd.prog .shr 54 y7 y9) H10) fun y11 H12 =>
 S.b (up (binB Tryd.prog .and 54 y11 (.int .u64 1)) H12) fun y13 H14 =>
 S.b (up (binB Tryd.prog .eql 54 y13 (.int .u64 1)) H14) fun y15 H16 =>
 some (y15, H16)

theorem f59_main (S : Seam (Value × Heap)) (C : CallF) (n : Nat) (x0 : Value) (x1 : Value) (H : Heap) : acodeK S Tryd.prog C n 14 f59_c (env0 [x0, x1]) H (fin Tryd.prog Tryd.f59) = f59 S C n x0 x1 H := by
  kernel_rfl


theorem f59_eq {E : Ext} (hE : E 59 = none) (n : Nat) (x0 : Value) (x1 : Value) (H : Heap) : acall Tryd.prog true E (n + 1) 59 [x0, x1] H = f59 real (acall Tryd.prog true E n) n x0 x1 H :=
  (acall_eq (N := 14) Tryd.func59 (by kernel_rfl) (by kernel_rfl) hE (by kernel_rfl) (by kernel_rfl)).trans (f59_main real _ n x0 x1 H)

noncomputable def f66_c : Code := (Tryd.f66.body).getD .skip

noncomputable def f66_L0 (S : Seam (Value × Heap)) (C : CallF) (n : Nat) : Nat → Value → Value → Heap → Option (Value × Heap)
 | 0, _, _, _ => none
 | m + 1, y1, y2, H3 =>
  S.b (nilC y1 H3) fun y4 H5 =>
  S.b (up (fAddr 0 y4) H5) fun y6 H7 =>
  S.b (up (fAddr 1 y6) H7) fun y8 H9 =>
  S.c true (S.b (ldC y8 H9) fun y10 H11 =>
  S.b (nilC y1 H11) fun y12 H13 =>
  S.b (up (fAddr 0 y12) H13) fun y14 H15 =>
  S.b (up (fAddr 0 y14) H15) fun y16 H17 =>
  S.c true (S.b (ldC y16 H17) fun y18 H19 =>
  S.b (up (lenStr y18) H19) fun y20 H21 =>
  S.b (up (binB Tryd.prog .lss 3 y10 y20) H21) fun y22 H23 =>
  S.b (gd (wd y22 true) (some (y1, H23)) H23) fun y24 H25 =>
  S.b (gd (wd y22 true) (nilC y24 H25) H25) fun y26 H27 =>
  S.b (gd (wd y22 true) (up (fAddr 0 y26) H27) H27) fun y28 H29 =>
  S.b (gd (wd y22 true) (C 82 [y28, (.int .u8 124)] H29) H29) fun y30 H31 =>
  S.c (!(wd y22 true) || true) (S.b (gd (wd y22 true) (up (unB .not y30) H31) H31) fun y32 H33 =>
  S.b (pickV y22 y32 (.bool false) H33) fun y34 H35 =>
  S.b (gd (wd y34 true) (some (y1, H35)) H35) fun y36 H37 =>
  S.b (gd (wd y34 true) (nilC y36 H37) H37) fun y38 H39 =>
  S.b (gd (wd y34 true) (up (fAddr 0 y38) H39) H39) fun y40 H41 =>
  S.b (gd (wd y34 true) (C 82 [y40, (.int .u8 41)] H41) H41) fun y42 H43 =>
  S.c (!(wd y34 true) || true) (S.b (gd (wd y34 true) (up (unB .not y42) H43) H43) fun y44 H45 =>
  S.b (pickV y34 y44 (.bool false) H45) fun y46 H47 =>
  S.i y46
  (S.b (C 83 [y1] H47) fun y48 H49 =>
  S.b (up (binB Tryd.prog .geq 3 y2 (.int .i64 0)) H49) fun y50 H51 =>
  S.i y50
  (S.b (bld [(.int .i64 0), (.int .u64 0), (.int .u64 0), (.int .u64 0), (.int .u64 0), (.int .i64 0), (.int .i64 0)] [(0, 1, (.int .i64 3)), (5, 1, y2), (6, 1, y48)] H51) fun y52 H53 =>
  S.b (C 68 [y1, y52] H53) fun y54 H55 =>
  f66_L0 S C n m y1 y54 H55)
  (f66_L0 S C n m y1 y48 H51))
  (S.b (up (binB Tryd.prog .lss 3 y2 (.int .i64 0)) H47) fun y59 H60 =>
  S.i y59
  (S.b (bld [(.int .i64 0), (.int .u64 0), (.int .u64 0), (.int .u64 0), (.int .u64 0), (.int .i64 0), (.int .i64 0)] [(0, 1, (.int .i64 1))] H60) fun y61 H62 =>
  S.b (C 68 [y1, y61] H62) fun y63 H64 =>
  some (y63, H64))
  (some (y2, H60)))))))

theorem f66_L0_eq (S : Seam (Value × Heap)) (C : CallF) (n : Nat) : ∀ (m : Nat) (env : Env) (H : Heap), aloopK (acodeK S Tryd.prog C n 47 (cAt f66_c [1, 1, 0, 0, 0])) m env H (kAt S Tryd.prog C n 47 f66_c [1, 1, 0, 0] (fin Tryd.prog Tryd.f66)) = f66_L0 S C n m (env 0) (env 3) H := by
  intro m env H
  refine aloopK_eq (L := fun m env H => f66_L0 S C n m (env 0) (env 3) H) (fun env H => rfl) (fun m env H => ?_) m env H
  kernel_rfl


noncomputable def f66 (S : Seam (Value × Heap)) (C : CallF) (n : Nat) (x0 : Value) (H : Heap) : Option (Value × Heap) :=
 f66_L0 S C n n x0 (.int .i64 (-1)) H

noncomputable def f66G (S : Seam (Value × Heap)) (C : CallF) (n : Nat) (P0 : Env → Heap → Option (Value × Heap)) (x0 : Value) (H : Heap) : Option (Value × Heap) :=
 P0 (putE 47 (putE 47 (env0 [x0]) (some 2) (.int .i64 0)) (some 3) (.int .i64 (-1))) H

theorem f66_main (S : Seam (Value × Heap)) (C : CallF) (n : Nat) (x0 : Value) (H : Heap) : acodeK S Tryd.prog C n 47 f66_c (env0 [x0]) H (fin Tryd.prog Tryd.f66) = f66 S C n x0 H := by
  have h1 : acodeK S Tryd.prog C n 47 f66_c (env0 [x0]) H (fin Tryd.prog Tryd.f66) = f66G S C n (fun env H => aloopK (acodeK S Tryd.prog C n 47 (cAt f66_c [1, 1, 0, 0, 0])) n env H (kAt S Tryd.prog C n 47 f66_c [1, 1, 0, 0] (fin Tryd.prog Tryd.f66))) x0 H := by kernel_rfl
  have e0 : (fun env H => aloopK (acodeK S Tryd.prog C n 47 (cAt f66_c [1, 1, 0, 0, 0])) n env H (kAt S Tryd.prog C n 47 f66_c [1, 1, 0, 0] (fin Tryd.prog Tryd.f66))) = (fun env H => f66_L0 S C n n (env 0) (env 3) H) := by funext env H; exact f66_L0_eq S C n n env H
  rw [e0] at h1
  exact h1.trans (by kernel_rfl)


noncomputable def f67_c : Code := (Tryd.f67.body).getD .skip

noncomputable def f67 (S : Seam (Value × Heap)) (C : CallF) (n : Nat) (x0 : Value) (x1 : Value) (H : Heap) : Option (Value × Heap) :=
 S.b (C 82 [x0, x1] H) fun y1 H2 =>
 S.i y1
 (S.b (nilC x0 H2) fun y3 H4 =>
  S.b (up (fAddr 1 y3) H4) fun y5 H6 =>
  S.b (ldC y5 H6) fun y7 H8 =>
  S.b (up (binB Tryd.prog .add 3 y7 (.int .i64 1)) H8) fun y9 H10 =>
  S.b (nilC x0 H10) fun y11 H12 =>
  S.b (up (fAddr 1 y11) H12) fun y13 H14 =>
  S.b (stV 1 y13 y9 H14) fun _ H15 =>
  some (y1, H15))
 (some (y1, H2))

theorem f67_main (S : Seam (Value × Heap)) (C : CallF) (n : Nat) (x0 : Value) (x1 : Value) (H : Heap) : acodeK S Tryd.prog C n 18 f67_c (env0 [x0, x1]) H (fin Tryd.prog Tryd.f67) = f67 S C n x0 x1 H := by
  kernel_rfl


theorem f67_eq {E : Ext} (hE : E 67 = none) (n : Nat) (x0 : Value) (x1 : Value) (H : Heap) : acall Tryd.prog true E (n + 1) 67 [x0, x1] H = f67 real (acall Tryd.prog true E n) n x0 x1 H :=
  (acall_eq (N := 18) Tryd.func67 (by kernel_rfl) (by kernel_rfl) hE (by kernel_rfl) (by kernel_rfl)).trans (f67_main real _ n x0 x1 H)

noncomputable def f68_c : Code := (Tryd.f68.body).getD .skip

noncomputable def f68 (S : Seam (Value × Heap)) (C : CallF) (n : Nat) (x0 : Value) (x1 : Value) (H : Heap) : Option (Value × Heap) :=
 S.b (newV (Value.cells x1).toList H) fun y1 H2 =>
 S.b (nilC x0 H2) fun y3 H4 =>
 S.b (up (fAddr 2 y3) H4) fun y5 H6 =>
 S.c true (S.b (ldC y5 H6) fun y7 H8 =>
 S.c true (S.b (ldA 7 y1 H8) fun y9 H10 =>
 S.b (bldS 7 1 [(.int .i64 0), (.int .u64 0), (.int .u64 0), (.int .u64 0), (.int .u64 0), (.int .i64 0), (.int .i64 0)] [(0, 7, y9)] H10) fun y11 H12 =>
 S.b (app 7 56 y7 y11 H12) fun y13 H14 =>
 S.c true (S.b (nilC x0 H14) fun y15 H16 =>
  S.b (up (fAddr 2 y15) H16) fun y17 H18 =>
  S.b (stV 1 y17 y13 H18) fun _ H19 =>
  S.c true (S.b (nilC x0 H19) fun y20 H21 =>
  S.b (up (fAddr 2 y20) H21) fun y22 H23 =>
  S.b (ldC y22 H23) fun y24 H25 =>
  S.b (up (lenS y24) H25) fun y26 H27 =>
  S.b (up (binB Tryd.prog .sub 3 y26 (.int .i64 1)) H27) fun y28 H29 =>
  some (y28, H29)))))

theorem f68_main (S : Seam (Value × Heap)) (C : CallF) (n : Nat) (x0 : Value) (x1 : Value) (H : Heap) : acodeK S Tryd.prog C n 21 f68_c (env0 [x0, x1]) H (fin Tryd.prog Tryd.f68) = f68 S C n x0 x1 H := by
  kernel_rfl


theorem f68_eq {E : Ext} (hE : E 68 = none) (n : Nat) (x0 : Value) (x1 : Value) (H : Heap) : acall Tryd.prog true E (n + 1) 68 [x0, x1] H = f68 real (acall Tryd.prog true E n) n x0 x1 H :=
  (acall_eq (N := 21) Tryd.func68 (by kernel_rfl) (by kernel_rfl) hE (by kernel_rfl) (by kernel_rfl)).trans (f68_main real _ n x0 x1 H)

noncomputable def f74_c : Code := (Tryd.f74.body).getD .skip

noncomputable def f74_L0 (S : Seam (Value × Heap)) (C : CallF) (n : Nat) : Nat → Value → Value → Value → Heap → Option (Value × Heap)
 | 0, _, _, _, _ => none
 | m + 1, y5, y6, y7, H8 =>
  S.b (up (binB Tryd.prog .lss 3 y7 (.int .i64 4)) H8) fun y9 H10 =>
  S.i y9
  (S.b (up (idxA false 4 1 y6 y7) H10) fun y11 H12 =>
  S.b (C 86 [y11] H12) fun y13 H14 =>
  S.b (up (binB Tryd.prog .add 3 y5 y13) H14) fun y15 H16 =>
  S.b (up (binB Tryd.prog .add 3 y7 (.int .i64 1)) H16) fun y17 H18 =>
  f74_L0 S C n m y15 y6 y17 H18)
  (some (y5, H10))

theorem f74_L0_eq (S : Seam (Value × Heap)) (C : CallF) (n : Nat) : ∀ (m : Nat) (env : Env) (H : Heap), aloopK (acodeK S Tryd.prog C n 16 (cAt f74_c [1, 1, 0, 1, 0, 0])) m env H (kAt S Tryd.prog C n 16 f74_c [1, 1, 0, 1, 0] (fin Tryd.prog Tryd.f74)) = f74_L0 S C n m (env 3) (env 6) (env 7) H := by
  intro m env H
  refine aloopK_eq (L := fun m env H => f74_L0 S C n m (env 3) (env 6) (env 7) H) (fun env H => rfl) (fun m env H => ?_) m env H
  kernel_rfl


noncomputable def f74 (S : Seam (Value × Heap)) (C : CallF) (n : Nat) (x0 : Value) (H : Heap) : Option (Value × Heap) :=
 S.b (newV (Value.cells x0).toList H) fun y1 H2 =>
 S.b (ldA 4 y1 H2) fun y3 H4 =>
 f74_L0 S C n n (.int .i64 0) y3 (.int .i64 0) H4

noncomputable def f74G (S : Seam (Value × Heap)) (C : CallF) (n : Nat) (P0 : Env → Heap → Option (Value × Heap)) (x0 : Value) (H : Heap) : Option (Value × Heap) :=
 S.b (newV (Value.cells x0).toList H) fun y19 H20 =>
 S.b (ldA 4 y19 H20) fun y21 H22 =>
 P0 (putE 16 (putE 16 (putE 16 (putE 16 (putE 16 (env0 [x0]) (some 1) y19) (some 2) (.int .i64 0)) (some 3) (.int .i64 0)) (some 6) y21) (some 7) (.int .i64 0)) H22

theorem f74_main (S : Seam (Value × Heap)) (C : CallF) (n : Nat) (x0 : Value) (H : Heap) : acodeK S Tryd.prog C n 16 f74_c (env0 [x0]) H (fin Tryd.prog Tryd.f74) = f74 S C n x0 H := by
  have h1 : acodeK S Tryd.prog C n 16 f74_c (env0 [x0]) H (fin Tryd.prog Tryd.f74) = f74G S C n (fun env H => aloopK (acodeK S Tryd.prog C n 16 (cAt f74_c [1, 1, 0, 1, 0, 0])) n env H (kAt S Tryd.prog C n 16 f74_c [1, 1, 0, 1, 0] (fin Tryd.prog Tryd.f74))) x0 H := by kernel_rfl
  have e0 : (fun env H => aloopK (acodeK S Tryd.prog C n 16 (cAt f74_c [1, 1, 0, 1, 0, 0])) n env H (kAt S Tryd.prog C n 16 f74_c [1, 1, 0, 1, 0] (fin Tryd.prog Tryd.f74))) = (fun env H => f74_L0 S C n n (env 3) (env 6) (env 7) H) := by funext env H; exact f74_L0_eq S C n n env H
  rw [e0] at h1
  exact h1.trans (by kernel_rfl)


theorem f74_eq {E : Ext} (hE : E 74 = none) (n : Nat) (x0 : Value) (H : Heap) : acall Tryd.prog true E (n + 1) 74 [x0] H = f74 real (acall Tryd.prog true E n) n x0 H :=
  (acall_eq (N := 16) Tryd.func74 (by kernel_rfl) (by kernel_rfl) hE (by kernel_rfl) (by kernel_rfl)).trans (f74_main real _ n x0 H)

noncomputable def f75 (S : Seam (Value × Heap)) (C : CallF) (n : Nat) (x0 : Value) (H : Heap) : Option (Value × Heap) :=
 S.b (newV (Value.cells x0).toList H) fun y1 H2 =>
 S.b (newV [(.int .u8 0)] H2) fun y3 H4 =>
 S.b (newV [(.bool false)] H4) fun y5 H6 =>
 S.b (ldA 4 y1 H6) fun y7 H8 =>
 S.b (bld [(.int .u64 0), (.int .u64 0), (.int .u64 0), (.int .u64 0)] [] H8) fun y9 H10 =>
 S.b (up (binB Tryd.prog .eql 56 y7 y9) H10) fun y11 H12 =>
 S.i y11
 (S.b (stV 1 y3 (.int .u8 0) H12) fun _ H13 =>
  S.b (stV 1 y5 (.bool false) H13) fun _ H14 =>
  (resM [(ldC y3 H14).map (·.1), (ldC y5 H14).map (·.1)]).map fun l => (one l, H14))
 (S.b (ldA 4 y1 H12) fun y15 H16 =>
  S.b (C 87 [y15] H16) fun y17 H18 =>
  none)

noncomputable def f77_c : Code := (Tryd.f77.body).getD .skip

noncomputable def f77_L0 (S : Seam (Value × Heap)) (C : CallF) (n : Nat) : Nat → Value → Value → Value → Value → Value → Heap → Option (Value × Heap)
 | 0, _, _, _, _, _, _ => none
 | m + 1, y5, y6, y7, y8, y9, H10 =>
  S.b (up (binB Tryd.prog .lss 3 y9 y8) H10) fun y11 H12 =>
  S.i y11
  (S.b (up (iAddrS 2 y7 y9) H12) fun y13 H14 =>
  S.b (ldA 2 y13 H14) fun y15 H16 =>
  S.b (newV [(.int .u8 0), (.int .u8 0)] H16) fun y17 H18 =>
  S.b (stV 2 y17 y15 H18) fun _ H19 =>
  S.b (up (fAddr 1 y17) H19) fun y20 H21 =>
  S.b (ldC y20 H21) fun y22 H23 =>
  S.b (up (binB Tryd.prog .eql 5 y22 y5) H23) fun y24 H25 =>
  S.i y24
  (S.b (up (fAddr 0 y17) H25) fun y26 H27 =>
  S.b (ldC y26 H27) fun y28 H29 =>
  S.b (bldS 1 1 [(.int .u8 0)] [(0, 1, y28)] H29) fun y30 H31 =>
  S.b (toStr y30 H31) fun y32 H33 =>
  S.b (up (binB Tryd.prog .add 9 (.string ⟨#[92]⟩) y32) H33) fun y34 H35 =>
  some (y34, H35))
  (S.b (up (binB Tryd.prog .add 3 y9 (.int .i64 1)) H25) fun y36 H37 =>
  f77_L0 S C n m y5 y6 y7 y8 y36 H37))
  (S.b (up (binB Tryd.prog .geq 5 y5 (.int .u8 32)) H12) fun y38 H39 =>
  S.b (gd (wd y38 true) (some (y5, H39)) H39) fun y40 H41 =>
  S.b (gd (wd y38 true) (up (binB Tryd.prog .leq 5 y40 (.int .u8 126)) H41) H41) fun y42 H43 =>
  S.b (pickV y38 y42 (.bool false) H43) fun y44 H45 =>
  S.b (gd (wd y44 true) (some (y6, H45)) H45) fun y46 H47 =>
  S.b (gd (wd y44 true) (some (y5, H47)) H47) fun y48 H49 =>
  S.b (gd (wd y44 true) (C 89 [y46, y48] H49) H49) fun y50 H51 =>
  S.b (gd (wd y44 true) (up (binB Tryd.prog .lss 3 y50 (.int .i64 0)) H51) H51) fun y52 H53 =>
  S.b (pickV y44 y52 (.bool false) H53) fun y54 H55 =>
  S.i y54
  (S.b (bldS 1 1 [(.int .u8 0)] [(0, 1, y5)] H55) fun y56 H57 =>
  S.b (toStr y56 H57) fun y58 H59 =>
  some (y58, H59))
  (S.b (C 89 [(.string ⟨#[40, 41, 91, 93, 124, 42, 43, 63, 46, 92, 47, 94, 45]⟩), y5] H55) fun y60 H61 =>
  S.b (up (binB Tryd.prog .geq 3 y60 (.int .i64 0)) H61) fun y62 H63 =>
  S.i y62
  (S.b (bldS 1 1 [(.int .u8 0)] [(0, 1, y5)] H63) fun y64 H65 =>
  S.b (toStr y64 H65) fun y66 H67 =>
  S.b (up (binB Tryd.prog .add 9 (.string ⟨#[92]⟩) y66) H67) fun y68 H69 =>
  some (y68, H69))
  (S.b (up (binB Tryd.prog .shr 5 y5 (.int .u64 4)) H63) fun y70 H71 =>
  S.b (up (idxS (.string ⟨#[48, 49, 50, 51, 52, 53, 54, 55, 56, 57, 97, 98, 99, 100, 101, 102]⟩) y70) H71) fun y72 H73 =>
  S.b (up (binB Tryd.prog .and 5 y5 (.int .u8 15)) H73) fun y74 H75 =>
  S.b (up (idxS (.string ⟨#[48, 49, 50, 51, 52, 53, 54, 55, 56, 57, 97, 98, 99, 100, 101, 102]⟩) y74) H75) fun y76 H77 =>
  S.b (bldS 1 2 [(.int .u8 0)] [(0, 1, y72), (1, 1, y76)] H77) fun y78 H79 =>
  S.c true (S.b (toStr y78 H79) fun y80 H81 =>
  S.b (up (binB Tryd.prog .add 9 (.string ⟨#[92, 120]⟩) y80) H81) fun y82 H83 =>
  some (y82, H83)))))

theorem f77_L0_eq (S : Seam (Value × Heap)) (C : CallF) (n : Nat) : ∀ (m : Nat) (env : Env) (H : Heap), aloopK (acodeK S Tryd.prog C n 56 (cAt f77_c [1, 0, 1, 0, 0])) m env H (kAt S Tryd.prog C n 56 f77_c [1, 0, 1, 0] (fin Tryd.prog Tryd.f77)) = f77_L0 S C n m (env 0) (env 1) (env 7) (env 8) (env 9) H := by
  intro m env H
  refine aloopK_eq (L := fun m env H => f77_L0 S C n m (env 0) (env 1) (env 7) (env 8) (env 9) H) (fun env H => rfl) (fun m env H => ?_) m env H
  kernel_rfl


noncomputable def f77 (S : Seam (Value × Heap)) (C : CallF) (n : Nat) (x0 : Value) (x1 : Value) (H : Heap) : Option (Value × Heap) :=
 S.b (ldC (.pointer (some ⟨0, 0, none⟩)) H) fun y1 H2 =>
 S.b (up (lenS y1) H2) fun y3 H4 =>
 f77_L0 S C n n x0 x1 y1 y3 (.int .i64 0) H4

noncomputable def f77G (S : Seam (Value × Heap)) (C : CallF) (n : Nat) (P0 : Env → Heap → Option (Value × Heap)) (x0 : Value) (x1 : Value) (H : Heap) : Option (Value × Heap) :=
 S.b (ldC (.pointer (some ⟨0, 0, none⟩)) H) fun y84 H85 =>
 S.b (up (lenS y84) H85) fun y86 H87 =>
 P0 (putE 56 (putE 56 (putE 56 (putE 56 (env0 [x0, x1]) (some 4) (.string ⟨#[]⟩)) (some 7) y84) (some 8) y86) (some 9) (.int .i64 0)) H87

theorem f77_main (S : Seam (Value × Heap)) (C : CallF) (n : Nat) (x0 : Value) (x1 : Value) (H : Heap) : acodeK S Tryd.prog C n 56 f77_c (env0 [x0, x1]) H (fin Tryd.prog Tryd.f77) = f77 S C n x0 x1 H := by
  have h1 : acodeK S Tryd.prog C n 56 f77_c (env0 [x0, x1]) H (fin Tryd.prog Tryd.f77) = f77G S C n (fun env H => aloopK (acodeK S Tryd.prog C n 56 (cAt f77_c [1, 0, 1, 0, 0])) n env H (kAt S Tryd.prog C n 56 f77_c [1, 0, 1, 0] (fin Tryd.prog Tryd.f77))) x0 x1 H := by kernel_rfl
  have e0 : (fun env H => aloopK (acodeK S Tryd.prog C n 56 (cAt f77_c [1, 0, 1, 0, 0])) n env H (kAt S Tryd.prog C n 56 f77_c [1, 0, 1, 0] (fin Tryd.prog Tryd.f77))) = (fun env H => f77_L0 S C n n (env 0) (env 1) (env 7) (env 8) (env 9) H) := by funext env H; exact f77_L0_eq S C n n env H
  rw [e0] at h1
  exact h1.trans (by kernel_rfl)


theorem f77_eq {E : Ext} (hE : E 77 = none) (n : Nat) (x0 : Value) (x1 : Value) (H : Heap) : acall Tryd.prog true E (n + 1) 77 [x0, x1] H = f77 real (acall Tryd.prog true E n) n x0 x1 H :=
  (acall_eq (N := 56) Tryd.func77 (by kernel_rfl) (by kernel_rfl) hE (by kernel_rfl) (by kernel_rfl)).trans (f77_main real _ n x0 x1 H)

noncomputable def f78_c : Code := (Tryd.f78.body).getD .skip

noncomputable def f78_L0 (S : Seam (Value × Heap)) (C : CallF) (n : Nat) : Nat → Value → Value → Value → Value → Heap → Option (Value × Heap)
 | 0, _, _, _, _, _ => none
 | m + 1, y3, y4, y5, y6, H7 =>
  S.b (up (binB Tryd.prog .lss 3 y6 y5) H7) fun y8 H9 =>
  S.i y8
  (S.b (up (iAddrS 1 y3 y6) H9) fun y10 H11 =>
  S.b (ldC y10 H11) fun y12 H13 =>
  S.b (up (binB Tryd.prog .eql 3 y4 y12) H13) fun y14 H15 =>
  S.i y14
  (some (y6, H15))
  (S.b (up (binB Tryd.prog .add 3 y6 (.int .i64 1)) H15) fun y16 H17 =>
  f78_L0 S C n m y3 y4 y5 y16 H17))
  (some ((.int .i64 (-1)), H9))

theorem f78_L0_eq (S : Seam (Value × Heap)) (C : CallF) (n : Nat) : ∀ (m : Nat) (env : Env) (H : Heap), aloopK (acodeK S Tryd.prog C n 19 (cAt f78_c [1, 0, 1, 0, 0])) m env H (kAt S Tryd.prog C n 19 f78_c [1, 0, 1, 0] (fin Tryd.prog Tryd.f78)) = f78_L0 S C n m (env 0) (env 1) (env 7) (env 8) H := by
  intro m env H
  refine aloopK_eq (L := fun m env H => f78_L0 S C n m (env 0) (env 1) (env 7) (env 8) H) (fun env H => rfl) (fun m env H => ?_) m env H
  kernel_rfl


noncomputable def f78 (S : Seam (Value × Heap)) (C : CallF) (n : Nat) (x0 : Value) (x1 : Value) (H : Heap) : Option (Value × Heap) :=
 S.b (up (lenS x0) H) fun y1 H2 =>
 f78_L0 S C n n x0 x1 y1 (.int .i64 0) H2

noncomputable def f78G (S : Seam (Value × Heap)) (C : CallF) (n : Nat) (P0 : Env → Heap → Option (Value × Heap)) (x0 : Value) (x1 : Value) (H : Heap) : Option (Value × Heap) :=
 S.b (up (lenS x0) H) fun y18 H19 =>
 P0 (putE 19 (putE 19 (putE 19 (putE 19 (env0 [x0, x1]) (some 4) (.int .i64 0)) (some 6) x0) (some 7) y18) (some 8) (.int .i64 0)) H19

theorem f78_main (S : Seam (Value × Heap)) (C : CallF) (n : Nat) (x0 : Value) (x1 : Value) (H : Heap) : acodeK S Tryd.prog C n 19 f78_c (env0 [x0, x1]) H (fin Tryd.prog Tryd.f78) = f78 S C n x0 x1 H := by
  have h1 : acodeK S Tryd.prog C n 19 f78_c (env0 [x0, x1]) H (fin Tryd.prog Tryd.f78) = f78G S C n (fun env H => aloopK (acodeK S Tryd.prog C n 19 (cAt f78_c [1, 0, 1, 0, 0])) n env H (kAt S Tryd.prog C n 19 f78_c [1, 0, 1, 0] (fin Tryd.prog Tryd.f78))) x0 x1 H := by kernel_rfl
  have e0 : (fun env H => aloopK (acodeK S Tryd.prog C n 19 (cAt f78_c [1, 0, 1, 0, 0])) n env H (kAt S Tryd.prog C n 19 f78_c [1, 0, 1, 0] (fin Tryd.prog Tryd.f78))) = (fun env H => f78_L0 S C n n (env 0) (env 1) (env 7) (env 8) H) := by funext env H; exact f78_L0_eq S C n n env H
  rw [e0] at h1
  exact h1.trans (by kernel_rfl)


theorem f78_eq {E : Ext} (hE : E 78 = none) (n : Nat) (x0 : Value) (x1 : Value) (H : Heap) : acall Tryd.prog true E (n + 1) 78 [x0, x1] H = f78 real (acall Tryd.prog true E n) n x0 x1 H :=
  (acall_eq (N := 19) Tryd.func78 (by kernel_rfl) (by kernel_rfl) hE (by kernel_rfl) (by kernel_rfl)).trans (f78_main real _ n x0 x1 H)

noncomputable def f82_c : Code := (Tryd.f82.body).getD .skip

noncomputable def f82 (S : Seam (Value × Heap)) (C : CallF) (n : Nat) (x0 : Value) (x1 : Value) (H : Heap) : Option (Value × Heap) :=
 S.b (nilC x0 H) fun y1 H2 =>
 S.b (up (fAddr 1 y1) H2) fun y3 H4 =>
 S.c true (S.b (ldC y3 H4) fun y5 H6 =>
 S.b (nilC x0 H6) fun y7 H8 =>
 S.b (up (fAddr 0 y7) H8) fun y9 H10 =>
 S.c true (S.b (ldC y9 H10) fun y11 H12 =>
 S.b (up (lenStr y11) H12) fun y13 H14 =>
 S.b (up (binB Tryd.prog .lss 3 y5 y13) H14) fun y15 H16 =>
 S.b (gd (wd y15 true) (some (x0, H16)) H16) fun y17 H18 =>
 S.b (gd (wd y15 true) (nilC y17 H18) H18) fun y19 H20 =>
 S.b (gd (wd y15 true) (up (fAddr 0 y19) H20) H20) fun y21 H22 =>
 S.c (!(wd y15 true) || true) (S.b (gd (wd y15 true) (ldC y21 H22) H22) fun y23 H24 =>
 S.b (gd (wd y15 true) (some (x0, H24)) H24) fun y25 H26 =>
 S.b (gd (wd y15 true) (nilC y25 H26) H26) fun y27 H28 =>
 S.b (gd (wd y15 true) (up (fAddr 1 y27) H28) H28) fun y29 H30 =>
 S.c (!(wd y15 true) || true) (S.b (gd (wd y15 true) (ldC y29 H30) H30) fun y31 H32 =>
 S.b (gd (wd y15 true) (up (idxS y23 y31) H32) H32) fun y33 H34 =>
 S.b (gd (wd y15 true) (some (x1, H34)) H34) fun y35 H36 =>
 S.b (gd (wd y15 true) (up (binB Tryd.prog .eql 5 y33 y35) H36) H36) fun y37 H38 =>
 S.b (pickV y15 y37 (.bool false) H38) fun y39 H40 =>
 some (y39, H40)))))

theorem f82_main (S : Seam (Value × Heap)) (C : CallF) (n : Nat) (x0 : Value) (x1 : Value) (H : Heap) : acodeK S Tryd.prog C n 28 f82_c (env0 [x0, x1]) H (fin Tryd.prog Tryd.f82) = f82 S C n x0 x1 H := by
  kernel_rfl


theorem f82_eq {E : Ext} (hE : E 82 = none) (n : Nat) (x0 : Value) (x1 : Value) (H : Heap) : acall Tryd.prog true E (n + 1) 82 [x0, x1] H = f82 real (acall Tryd.prog true E n) n x0 x1 H :=
  (acall_eq (N := 28) Tryd.func82 (by kernel_rfl) (by kernel_rfl) hE (by kernel_rfl) (by kernel_rfl)).trans (f82_main real _ n x0 x1 H)

noncomputable def f83_c : Code := (Tryd.f83.body).getD .skip

noncomputable def f83_J1 (S : Seam (Value × Heap)) (C : CallF) (n : Nat) (R0 : Value→Value→Heap→Option (Value × Heap)) (y80 y81 y82 : Value) (H83 : Heap) : Option (Value × Heap) :=
 S.b (bld [(.int .i64 0), (.int .u64 0), (.int .u64 0), (.int .u64 0), (.int .u64 0), (.int .i64 0), (.int .i64 0)] [(0, 1, y82), (5, 1, y81)] H83) fun y84 H85 =>
 S.b (C 68 [y80, y84] H85) fun y86 H87 =>
 S.b (nilC y80 H87) fun y88 H89 =>
 S.b (up (fAddr 0 y88) H89) fun y90 H91 =>
 S.b (up (fAddr 1 y90) H91) fun y92 H93 =>
 S.b (ldC y92 H93) fun y94 H95 =>
 S.b (up (binB Tryd.prog .add 3 y94 (.int .i64 1)) H95) fun y96 H97 =>
 S.b (nilC y80 H97) fun y98 H99 =>
 S.b (up (fAddr 0 y98) H99) fun y100 H101 =>
 S.b (up (fAddr 1 y100) H101) fun y102 H103 =>
 S.b (stV 1 y102 y96 H103) fun _ H104 =>
 R0 y80 y86 H104

noncomputable def f83_L0 (S : Seam (Value × Heap)) (C : CallF) (n : Nat) : Nat → Value → Value → Heap → Option (Value × Heap)
 | 0, _, _, _ => none
 | m + 1, y3, y4, H5 =>
  S.b (nilC y3 H5) fun y6 H7 =>
  S.b (up (fAddr 0 y6) H7) fun y8 H9 =>
  S.b (up (fAddr 1 y8) H9) fun y10 H11 =>
  S.c true (S.b (ldC y10 H11) fun y12 H13 =>
  S.b (nilC y3 H13) fun y14 H15 =>
  S.b (up (fAddr 0 y14) H15) fun y16 H17 =>
  S.b (up (fAddr 0 y16) H17) fun y18 H19 =>
  S.c true (S.b (ldC y18 H19) fun y20 H21 =>
  S.b (up (lenStr y20) H21) fun y22 H23 =>
  S.b (up (binB Tryd.prog .lss 3 y12 y22) H23) fun y24 H25 =>
  S.i y24
  (S.b (nilC y3 H25) fun y26 H27 =>
  S.b (up (fAddr 0 y26) H27) fun y28 H29 =>
  S.b (up (fAddr 0 y28) H29) fun y30 H31 =>
  S.c true (S.b (ldC y30 H31) fun y32 H33 =>
  S.b (nilC y3 H33) fun y34 H35 =>
  S.b (up (fAddr 0 y34) H35) fun y36 H37 =>
  S.b (up (fAddr 1 y36) H37) fun y38 H39 =>
  S.c true (S.b (ldC y38 H39) fun y40 H41 =>
  S.b (up (idxS y32 y40) H41) fun y42 H43 =>
  S.b (up (binB Tryd.prog .eql 5 y42 (.int .u8 63)) H43) fun y44 H45 =>
  S.i y44
  (S.b (bld [(.int .i64 0), (.int .u64 0), (.int .u64 0), (.int .u64 0), (.int .u64 0), (.int .i64 0), (.int .i64 0)] [(0, 1, (.int .i64 1))] H45) fun y46 H47 =>
  S.b (C 68 [y3, y46] H47) fun y48 H49 =>
  S.b (bld [(.int .i64 0), (.int .u64 0), (.int .u64 0), (.int .u64 0), (.int .u64 0), (.int .i64 0), (.int .i64 0)] [(0, 1, (.int .i64 4)), (5, 1, y4), (6, 1, y48)] H49) fun y50 H51 =>
  S.b (C 68 [y3, y50] H51) fun y52 H53 =>
  S.b (nilC y3 H53) fun y54 H55 =>
  S.b (up (fAddr 0 y54) H55) fun y56 H57 =>
  S.b (up (fAddr 1 y56) H57) fun y58 H59 =>
  S.b (ldC y58 H59) fun y60 H61 =>
  S.b (up (binB Tryd.prog .add 3 y60 (.int .i64 1)) H61) fun y62 H63 =>
  S.b (nilC y3 H63) fun y64 H65 =>
  S.b (up (fAddr 0 y64) H65) fun y66 H67 =>
  S.b (up (fAddr 1 y66) H67) fun y68 H69 =>
  S.b (stV 1 y68 y62 H69) fun _ H70 =>
  f83_L0 S C n m y3 y52 H70)
  (S.b (up (binB Tryd.prog .eql 5 y42 (.int .u8 43)) H45) fun y74 H75 =>
  S.i y74
  (f83_J1 S C n (f83_L0 S C n m) y3 y4 (.int .i64 6) H75)
  (S.b (up (binB Tryd.prog .eql 5 y42 (.int .u8 42)) H75) fun y105 H106 =>
  S.i y105
  (f83_J1 S C n (f83_L0 S C n m) y3 y4 (.int .i64 5) H106)
  (some (y4, H106)))))))
  (some (y4, H25))))

theorem f83_L0_eq (S : Seam (Value × Heap)) (C : CallF) (n : Nat) : ∀ (m : Nat) (env : Env) (H : Heap), aloopK (acodeK S Tryd.prog C n 67 (cAt f83_c [1, 1, 0, 0, 0])) m env H (kAt S Tryd.prog C n 67 f83_c [1, 1, 0, 0] (fin Tryd.prog Tryd.f83)) = f83_L0 S C n m (env 0) (env 3) H := by
  intro m env H
  refine aloopK_eq (L := fun m env H => f83_L0 S C n m (env 0) (env 3) H) (fun env H => rfl) (fun m env H => ?_) m env H
  kernel_rfl


noncomputable def f83 (S : Seam (Value × Heap)) (C : CallF) (n : Nat) (x0 : Value) (H : Heap) : Option (Value × Heap) :=
 S.b (C 94 [x0] H) fun y1 H2 =>
 f83_L0 S C n n x0 y1 H2

noncomputable def f83G (S : Seam (Value × Heap)) (C : CallF) (n : Nat) (P0 : Env → Heap → Option (Value × Heap)) (x0 : Value) (H : Heap) : Option (Value × Heap) :=
 S.b (C 94 [x0] H) fun y111 H112 =>
 P0 (putE 67 (putE 67 (putE 67 (putE 67 (env0 [x0]) (some 2) (.int .i64 0)) (some 5) x0) (some 6) y111) (some 3) y111) H112

theorem f83_main (S : Seam (Value × Heap)) (C : CallF) (n : Nat) (x0 : Value) (H : Heap) : acodeK S Tryd.prog C n 67 f83_c (env0 [x0]) H (fin Tryd.prog Tryd.f83) = f83 S C n x0 H := by
  have h1 : acodeK S Tryd.prog C n 67 f83_c (env0 [x0]) H (fin Tryd.prog Tryd.f83) = f83G S C n (fun env H => aloopK (acodeK S Tryd.prog C n 67 (cAt f83_c [1, 1, 0, 0, 0])) n env H (kAt S Tryd.prog C n 67 f83_c [1, 1, 0, 0] (fin Tryd.prog Tryd.f83))) x0 H := by kernel_rfl
  have e0 : (fun env H => aloopK (acodeK S Tryd.prog C n 67 (cAt f83_c [1, 1, 0, 0, 0])) n env H (kAt S Tryd.prog C n 67 f83_c [1, 1, 0, 0] (fin Tryd.prog Tryd.f83))) = (fun env H => f83_L0 S C n n (env 0) (env 3) H) := by funext env H; exact f83_L0_eq S C n n env H
  rw [e0] at h1
  exact h1.trans (by kernel_rfl)


noncomputable def f86_c : Code := (Tryd.f86.body).getD .skip

noncomputable def f86 (S : Seam (Value × Heap)) (C : CallF) (n : Nat) (x0 : Value) (H : Heap) : Option (Value × Heap) :=
 S.b (up (binB Tryd.prog .shr 54 x0 (.int .u64 1)) H) fun y1 H2 =>
 S.b (up (binB Tryd.prog .and 54 y1 (.int .u64 6148914691236517205)) H2) fun y3 H4 =>
 S.b (up (binB Tryd.prog .and 54 x0 (.int .u64 6148914691236517205)) H4) fun y5 H6 =>
 S.b (up (binB Tryd.prog .add 54 y3 y5) H6) fun y7 H8 =>
 S.b (up (binB Tryd.prog .shr 54 y7 (.int .u64 2)) H8) fun y9 H10 =>
 S.b (up (binB Tryd.prog .and 54 y9 (.int .u64 3689348814741910323)) H10) fun y11 H12 =>
 S.b (up (binB Tryd.prog .and 54 y7 (.int .u64 3689348814741910323)) H12) fun y13 H14 =>
 S.b (up (binB Tryd.prog .add 54 y11 y13) H14) fun y15 H16 =>
 S.b (up (binB Tryd.prog .shr 54 y15 (.int .u64 4)) H16) fun y17 H18 =>
 S.b (up (binB Tryd.prog .add 54 y17 y15) H18) fun y19 H20 =>
 S.b (up (binB Tryd.prog .and 54 y19 (.int .u64 1085102592571150095)) H20) fun y21 H22 =>
 S.b (up (binB Tryd.prog .shr 54 y21 (.int .u64 8)) H22) fun y23 H24 =>
 S.b (up (binB Tryd.prog .add 54 y21 y23) H24) fun y25 H26 =>
 S.b (up (binB Tryd.prog .shr 54 y25 (.int .u64 16)) H26) fun y27 H28 =>
 S.b (up (binB Tryd.prog .add 54 y25 y27) H28) fun y29 H30 =>
 S.b (up (binB Tryd.prog .shr 54 y29 (.int .u64 32)) H30) fun y31 H32 =>
 S.b (up (binB Tryd.prog .add 54 y29 y31) H32) fun y33 H34 =>
 S.b (cvI .i64 y33 H34) fun y35 H36 =>
 S.b (up (binB Tryd.prog .and 3 y35 (.int .i64 127)) H36) fun y37 H38 =>
 some (y37, H38)

theorem f86_main (S : Seam (Value × Heap)) (C : CallF) (n : Nat) (x0 : Value) (H : Heap) : acodeK S Tryd.prog C n 35 f86_c (env0 [x0]) H (fin Tryd.prog Tryd.f86) = f86 S C n x0 H := by
  kernel_rfl


theorem f86_eq {E : Ext} (hE : E 86 = none) (n : Nat) (x0 : Value) (H : Heap) : acall Tryd.prog true E (n + 1) 86 [x0] H = f86 real (acall Tryd.prog true E n) n x0 H :=
  (acall_eq (N := 35) Tryd.func86 (by kernel_rfl) (by kernel_rfl) hE (by kernel_rfl) (by kernel_rfl)).trans (f86_main real _ n x0 H)

noncomputable def f88 (S : Seam (Value × Heap)) (C : CallF) (n : Nat) (x0 : Value) (H : Heap) : Option (Value × Heap) :=
 S.b (C 97 [(.slice none 0 0), x0] H) fun y1 H2 =>
 some (y1, H2)

noncomputable def f89_c : Code := (Tryd.f89.body).getD .skip

noncomputable def f89 (S : Seam (Value × Heap)) (C : CallF) (n : Nat) (x0 : Value) (x1 : Value) (H : Heap) : Option (Value × Heap) :=
 S.b (C 98 [x0, x1] H) fun y1 H2 =>
 some (y1, H2)

theorem f89_main (S : Seam (Value × Heap)) (C : CallF) (n : Nat) (x0 : Value) (x1 : Value) (H : Heap) : acodeK S Tryd.prog C n 8 f89_c (env0 [x0, x1]) H (fin Tryd.prog Tryd.f89) = f89 S C n x0 x1 H := by
  kernel_rfl


theorem f89_eq {E : Ext} (hE : E 89 = none) (n : Nat) (x0 : Value) (x1 : Value) (H : Heap) : acall Tryd.prog true E (n + 1) 89 [x0, x1] H = f89 real (acall Tryd.prog true E n) n x0 x1 H :=
  (acall_eq (N := 8) Tryd.func89 (by kernel_rfl) (by kernel_rfl) hE (by kernel_rfl) (by kernel_rfl)).trans (f89_main real _ n x0 x1 H)

noncomputable def f94_c : Code := (Tryd.f94.body).getD .skip

noncomputable def f94_J1 (S : Seam (Value × Heap)) (C : CallF) (n : Nat) (y43 y44 : Value) (H45 : Heap) : Option (Value × Heap) :=
 S.b (ldA 4 y44 H45) fun y46 H47 =>
 S.b (bld [(.int .i64 0), (.int .u64 0), (.int .u64 0), (.int .u64 0), (.int .u64 0), (.int .i64 0), (.int .i64 0)] [(0, 1, (.int .i64 2)), (1, 4, y46)] H47) fun y48 H49 =>
 S.b (C 68 [y43, y48] H49) fun y50 H51 =>
 some (y50, H51)

noncomputable def f94 (S : Seam (Value × Heap)) (C : CallF) (n : Nat) (x0 : Value) (H : Heap) : Option (Value × Heap) :=
 S.b (newV [(.int .u64 0), (.int .u64 0), (.int .u64 0), (.int .u64 0)] H) fun y1 H2 =>
 S.b (nilC x0 H2) fun y3 H4 =>
 S.b (up (fAddr 0 y3) H4) fun y5 H6 =>
 S.b (C 67 [y5, (.int .u8 40)] H6) fun y7 H8 =>
 S.i y7
 (S.b (C 46 [x0] H8) fun y9 H10 =>
  S.b (nilC x0 H10) fun y11 H12 =>
  S.b (up (fAddr 0 y11) H12) fun y13 H14 =>
  S.b (C 67 [y13, (.int .u8 41)] H14) fun y15 H16 =>
  S.b (up (unB .not y15) H16) fun y17 H18 =>
  S.i y17
  (S.b (nilC x0 H18) fun y19 H20 =>
  S.b (up (fAddr 0 y19) H20) fun y21 H22 =>
  S.b (C 47 [y21] H22) fun y23 H24 =>
  some (y9, H24))
  (some (y9, H18)))
 (S.b (nilC x0 H8) fun y27 H28 =>
  S.b (up (fAddr 0 y27) H28) fun y29 H30 =>
  S.b (C 67 [y29, (.int .u8 46)] H30) fun y31 H32 =>
  S.i y31
  (S.b (bldS 1 1 [(.int .u8 0)] [(0, 1, (.int .u8 10))] H32) fun y33 H34 =>
  S.b (C 32 [y33] H34) fun y35 H36 =>
  S.b (C 31 [y35] H36) fun y37 H38 =>
  S.b (stV 4 y1 y37 H38) fun _ H39 =>
  f94_J1 S C n x0 y1 H39)
  (S.b (nilC x0 H32) fun y52 H53 =>
  S.b (up (fAddr 0 y52) H53) fun y54 H55 =>
  S.b (C 67 [y54, (.int .u8 91)] H55) fun y56 H57 =>
  S.i y56
  (S.b (nilC x0 H57) fun y58 H59 =>
  S.b (up (fAddr 0 y58) H59) fun y60 H61 =>
  S.b (C 99 [y60] H61) fun y62 H63 =>
  S.b (stV 4 y1 y62 H63) fun _ H64 =>
  f94_J1 S C n x0 y1 H64)
  (S.b (nilC x0 H57) fun y65 H66 =>
  S.b (up (fAddr 0 y65) H66) fun y67 H68 =>
  S.b (C 100 [y67, (.string ⟨#[40, 41, 91, 93, 124, 42, 43, 63, 46, 92, 47]⟩)] H68) fun y69 H70 =>
  S.b (bldS 1 1 [(.int .u8 0)] [(0, 1, y69)] H70) fun y71 H72 =>
  S.b (C 32 [y71] H72) fun y73 H74 =>
  S.b (stV 4 y1 y73 H74) fun _ H75 =>
  f94_J1 S C n x0 y1 H75)))

theorem f94_main (S : Seam (Value × Heap)) (C : CallF) (n : Nat) (x0 : Value) (H : Heap) : acodeK S Tryd.prog C n 49 f94_c (env0 [x0]) H (fin Tryd.prog Tryd.f94) = f94 S C n x0 H := by
  kernel_rfl


noncomputable def f97 (S : Seam (Value × Heap)) (C : CallF) (n : Nat) (x0 : Value) (x1 : Value) (H : Heap) : Option (Value × Heap) :=
 S.b (newV (Value.cells x0).toList H) fun y1 H2 =>
 none

noncomputable def f98_c : Code := (Tryd.f98.body).getD .skip

noncomputable def f98 (S : Seam (Value × Heap)) (C : CallF) (n : Nat) (x0 : Value) (x1 : Value) (H : Heap) : Option (Value × Heap) :=
 S.b (C 101 [x0, x1] H) fun y1 H2 =>
 some (y1, H2)

theorem f98_main (S : Seam (Value × Heap)) (C : CallF) (n : Nat) (x0 : Value) (x1 : Value) (H : Heap) : acodeK S Tryd.prog C n 8 f98_c (env0 [x0, x1]) H (fin Tryd.prog Tryd.f98) = f98 S C n x0 x1 H := by
  kernel_rfl


theorem f98_eq {E : Ext} (hE : E 98 = none) (n : Nat) (x0 : Value) (x1 : Value) (H : Heap) : acall Tryd.prog true E (n + 1) 98 [x0, x1] H = f98 real (acall Tryd.prog true E n) n x0 x1 H :=
  (acall_eq (N := 8) Tryd.func98 (by kernel_rfl) (by kernel_rfl) hE (by kernel_rfl) (by kernel_rfl)).trans (f98_main real _ n x0 x1 H)

noncomputable def f99_c : Code := (Tryd.f99.body).getD .skip

noncomputable def f99_J1 (S : Seam (Value × Heap)) (C : CallF) (n : Nat) (R0 : Value→Value→Value→Value→Value→Heap→Option (Value × Heap)) (y42 y43 y44 y45 y46 y47 : Value) (H48 : Heap) : Option (Value × Heap) :=
 S.c true (S.b (ldA 4 y45 H48) fun y49 H50 =>
 S.b (C 33 [y46, y47] H50) fun y51 H52 =>
 S.c (sameBlk H50 H52 (blkOf y45) && true) (S.b (C 102 [y49, y51] H52) fun y53 H54 =>
  S.c true (S.b (stV 4 y45 y53 H54) fun _ H55 =>
  S.c true (R0 y42 y43 y44 y45 (.bool false) H55))))

noncomputable def f99_L0 (S : Seam (Value × Heap)) (C : CallF) (n : Nat) : Nat → Value → Value → Value → Value → Value → Heap → Option (Value × Heap)
 | 0, _, _, _, _, _, _ => none
 | m + 1, y7, y8, y9, y10, y11, H12 =>
  S.b (gd (wd y11 false) (some (y7, H12)) H12) fun y13 H14 =>
  S.b (gd (wd y11 false) (C 67 [y13, (.int .u8 93)] H14) H14) fun y15 H16 =>
  S.b (gd (wd y11 false) (up (unB .not y15) H16) H16) fun y17 H18 =>
  S.b (pickV y11 (.bool true) y17 H18) fun y19 H20 =>
  S.i y19
  (S.b (C 100 [y7, (.string ⟨#[91, 93, 92, 94, 45, 47]⟩)] H20) fun y21 H22 =>
  S.b (C 67 [y7, (.int .u8 45)] H22) fun y23 H24 =>
  S.i y23
  (S.b (nilC y7 H24) fun y25 H26 =>
  S.b (up (fAddr 1 y25) H26) fun y27 H28 =>
  S.b (ldC y27 H28) fun y29 H30 =>
  S.b (C 100 [y7, (.string ⟨#[91, 93, 92, 94, 45, 47]⟩)] H30) fun y31 H32 =>
  S.b (up (binB Tryd.prog .lss 5 y31 y21) H32) fun y33 H34 =>
  S.i y33
  (S.b (nilC y7 H34) fun y35 H36 =>
  S.b (up (fAddr 1 y35) H36) fun y37 H38 =>
  S.b (stV 1 y37 y29 H38) fun _ H39 =>
  S.b (C 47 [y7] H39) fun y40 H41 =>
  f99_J1 S C n (f99_L0 S C n m) y7 y8 y9 y10 y21 y31 H41)
  (f99_J1 S C n (f99_L0 S C n m) y7 y8 y9 y10 y21 y31 H34))
  (f99_J1 S C n (f99_L0 S C n m) y7 y8 y9 y10 y21 y21 H24))
  (S.i y9
  (S.b (ldA 4 y10 H20) fun y56 H57 =>
  S.b (C 31 [y56] H57) fun y58 H59 =>
  S.b (stV 4 y8 y58 H59) fun _ H60 =>
     (resM [(ldA 4 y8 H60).map (·.1)]).map fun l => (one l, H60))
  (S.b (ldA 4 y10 H20) fun y61 H62 =>
  S.b (stV 4 y8 y61 H62) fun _ H63 =>
     (resM [(ldA 4 y8 H63).map (·.1)]).map fun l => (one l, H63)))

theorem f99_L0_eq (S : Seam (Value × Heap)) (C : CallF) (n : Nat) : ∀ (m : Nat) (env : Env) (H : Heap), aloopK (acodeK S Tryd.prog C n 46 (cAt f99_c [1, 1, 1, 0, 1, 0, 0])) m env H (kAt S Tryd.prog C n 46 f99_c [1, 1, 1, 0, 1, 0] (fin Tryd.prog Tryd.f99)) = f99_L0 S C n m (env 0) (env 2) (env 3) (env 4) (env 5) H := by
  intro m env H
  refine aloopK_eq (L := fun m env H => f99_L0 S C n m (env 0) (env 2) (env 3) (env 4) (env 5) H) (fun env H => rfl) (fun m env H => ?_) m env H
  kernel_rfl


noncomputable def f99 (S : Seam (Value × Heap)) (C : CallF) (n : Nat) (x0 : Value) (H : Heap) : Option (Value × Heap) :=
 S.b (newV [(.int .u64 0), (.int .u64 0), (.int .u64 0), (.int .u64 0)] H) fun y1 H2 =>
 S.b (C 67 [x0, (.int .u8 94)] H2) fun y3 H4 =>
 S.b (newV [(.int .u64 0), (.int .u64 0), (.int .u64 0), (.int .u64 0)] H4) fun y5 H6 =>
 f99_L0 S C n n x0 y1 y3 y5 (.bool true) H6

noncomputable def f99G (S : Seam (Value × Heap)) (C : CallF) (n : Nat) (P0 : Env → Heap → Option (Value × Heap)) (x0 : Value) (H : Heap) : Option (Value × Heap) :=
 S.b (newV [(.int .u64 0), (.int .u64 0), (.int .u64 0), (.int .u64 0)] H) fun y64 H65 =>
 S.b (C 67 [x0, (.int .u8 94)] H65) fun y66 H67 =>
 S.b (newV [(.int .u64 0), (.int .u64 0), (.int .u64 0), (.int .u64 0)] H67) fun y68 H69 =>
 P0 (putE 46 (putE 46 (putE 46 (putE 46 (putE 46 (putE 46 (env0 [x0]) (some 2) y64) (some 9) x0) (some 10) y66) (some 3) y66) (some 4) y68) (some 5) (.bool true)) H69

theorem f99_main (S : Seam (Value × Heap)) (C : CallF) (n : Nat) (x0 : Value) (H : Heap) : acodeK S Tryd.prog C n 46 f99_c (env0 [x0]) H (fin Tryd.prog Tryd.f99) = f99 S C n x0 H := by
  have h1 : acodeK S Tryd.prog C n 46 f99_c (env0 [x0]) H (fin Tryd.prog Tryd.f99) = f99G S C n (fun env H => aloopK (acodeK S Tryd.prog C n 46 (cAt f99_c [1, 1, 1, 0, 1, 0, 0])) n env H (kAt S Tryd.prog C n 46 f99_c [1, 1, 1, 0, 1, 0] (fin Tryd.prog Tryd.f99))) x0 H := by kernel_rfl
  have e0 : (fun env H => aloopK (acodeK S Tryd.prog C n 46 (cAt f99_c [1, 1, 1, 0, 1, 0, 0])) n env H (kAt S Tryd.prog C n 46 f99_c [1, 1, 1, 0, 1, 0] (fin Tryd.prog Tryd.f99))) = (fun env H => f99_L0 S C n n (env 0) (env 2) (env 3) (env 4) (env 5) H) := by funext env H; exact f99_L0_eq S C n n env H
  rw [e0] at h1
  exact h1.trans (by kernel_rfl)


noncomputable def f100_c : Code := (Tryd.f100.body).getD .skip

noncomputable def f100_J1 (S : Seam (Value × Heap)) (C : CallF) (n : Nat) (y93 : Value) (H94 : Heap) : Option (Value × Heap) :=
 S.b (nilC y93 H94) fun y95 H96 =>
 S.b (up (fAddr 1 y95) H96) fun y97 H98 =>
 S.b (ldC y97 H98) fun y99 H100 =>
 S.b (up (binB Tryd.prog .add 3 y99 (.int .i64 1)) H100) fun y101 H102 =>
 S.b (nilC y93 H102) fun y103 H104 =>
 S.b (up (fAddr 1 y103) H104) fun y105 H106 =>
 S.b (stV 1 y105 y101 H106) fun _ H107 =>
 S.b (nilC y93 H107) fun y108 H109 =>
 S.b (up (fAddr 0 y108) H109) fun y110 H111 =>
 S.c true (S.b (ldC y110 H111) fun y112 H113 =>
 S.b (nilC y93 H113) fun y114 H115 =>
 S.b (up (fAddr 1 y114) H115) fun y116 H117 =>
 S.c true (S.b (ldC y116 H117) fun y118 H119 =>
 S.b (up (binB Tryd.prog .sub 3 y118 (.int .i64 1)) H119) fun y120 H121 =>
 S.b (up (idxS y112 y120) H121) fun y122 H123 =>
 some (y122, H123)))

noncomputable def f100 (S : Seam (Value × Heap)) (C : CallF) (n : Nat) (x0 : Value) (x1 : Value) (H : Heap) : Option (Value × Heap) :=
 S.b (C 67 [x0, (.int .u8 92)] H) fun y1 H2 =>
 S.i y1
 (S.b (C 103 [x0] H2) fun y3 H4 =>
  some (y3, H4))
 (S.b (nilC x0 H2) fun y5 H6 =>
  S.b (up (fAddr 1 y5) H6) fun y7 H8 =>
  S.c true (S.b (ldC y7 H8) fun y9 H10 =>
  S.b (nilC x0 H10) fun y11 H12 =>
  S.b (up (fAddr 0 y11) H12) fun y13 H14 =>
  S.c true (S.b (ldC y13 H14) fun y15 H16 =>
  S.b (up (lenStr y15) H16) fun y17 H18 =>
  S.b (up (binB Tryd.prog .eql 3 y9 y17) H18) fun y19 H20 =>
  S.b (gd (wd y19 false) (some (x0, H20)) H20) fun y21 H22 =>
  S.b (gd (wd y19 false) (nilC y21 H22) H22) fun y23 H24 =>
  S.b (gd (wd y19 false) (up (fAddr 0 y23) H24) H24) fun y25 H26 =>
  S.c (!(wd y19 false) || true) (S.b (gd (wd y19 false) (ldC y25 H26) H26) fun y27 H28 =>
  S.b (gd (wd y19 false) (some (x0, H28)) H28) fun y29 H30 =>
  S.b (gd (wd y19 false) (nilC y29 H30) H30) fun y31 H32 =>
  S.b (gd (wd y19 false) (up (fAddr 1 y31) H32) H32) fun y33 H34 =>
  S.c (!(wd y19 false) || true) (S.b (gd (wd y19 false) (ldC y33 H34) H34) fun y35 H36 =>
  S.b (gd (wd y19 false) (up (idxS y27 y35) H36) H36) fun y37 H38 =>
  S.b (gd (wd y19 false) (up (binB Tryd.prog .lss 5 y37 (.int .u8 32)) H38) H38) fun y39 H40 =>
  S.b (pickV y19 (.bool true) y39 H40) fun y41 H42 =>
  S.b (gd (wd y41 false) (some (x0, H42)) H42) fun y43 H44 =>
  S.b (gd (wd y41 false) (nilC y43 H44) H44) fun y45 H46 =>
  S.b (gd (wd y41 false) (up (fAddr 0 y45) H46) H46) fun y47 H48 =>
  S.c (!(wd y41 false) || true) (S.b (gd (wd y41 false) (ldC y47 H48) H48) fun y49 H50 =>
  S.b (gd (wd y41 false) (some (x0, H50)) H50) fun y51 H52 =>
  S.b (gd (wd y41 false) (nilC y51 H52) H52) fun y53 H54 =>
  S.b (gd (wd y41 false) (up (fAddr 1 y53) H54) H54) fun y55 H56 =>
  S.c (!(wd y41 false) || true) (S.b (gd (wd y41 false) (ldC y55 H56) H56) fun y57 H58 =>
  S.b (gd (wd y41 false) (up (idxS y49 y57) H58) H58) fun y59 H60 =>
  S.b (gd (wd y41 false) (up (binB Tryd.prog .gtr 5 y59 (.int .u8 126)) H60) H60) fun y61 H62 =>
  S.b (pickV y41 (.bool true) y61 H62) fun y63 H64 =>
  S.b (gd (wd y63 false) (some (x1, H64)) H64) fun y65 H66 =>
  S.b (gd (wd y63 false) (some (x0, H66)) H66) fun y67 H68 =>
  S.b (gd (wd y63 false) (nilC y67 H68) H68) fun y69 H70 =>
  S.b (gd (wd y63 false) (up (fAddr 0 y69) H70) H70) fun y71 H72 =>
  S.c (!(wd y63 false) || true) (S.b (gd (wd y63 false) (ldC y71 H72) H72) fun y73 H74 =>
  S.b (gd (wd y63 false) (some (x0, H74)) H74) fun y75 H76 =>
  S.b (gd (wd y63 false) (nilC y75 H76) H76) fun y77 H78 =>
  S.b (gd (wd y63 false) (up (fAddr 1 y77) H78) H78) fun y79 H80 =>
  S.c (!(wd y63 false) || true) (S.b (gd (wd y63 false) (ldC y79 H80) H80) fun y81 H82 =>
  S.b (gd (wd y63 false) (up (idxS y73 y81) H82) H82) fun y83 H84 =>
  S.b (gd (wd y63 false) (C 89 [y65, y83] H84) H84) fun y85 H86 =>
  S.c (!(wd y63 false) || true) (S.b (gd (wd y63 false) (up (binB Tryd.prog .geq 3 y85 (.int .i64 0)) H86) H86) fun y87 H88 =>
  S.b (pickV y63 (.bool true) y87 H88) fun y89 H90 =>
  S.i y89
  (S.b (C 47 [x0] H90) fun y91 H92 =>
  f100_J1 S C n x0 H92)
  (f100_J1 S C n x0 H90)))))))))))

theorem f100_main (S : Seam (Value × Heap)) (C : CallF) (n : Nat) (x0 : Value) (x1 : Value) (H : Heap) : acodeK S Tryd.prog C n 76 f100_c (env0 [x0, x1]) H (fin Tryd.prog Tryd.f100) = f100 S C n x0 x1 H := by
  kernel_rfl


noncomputable def f102_c : Code := (Tryd.f102.body).getD .skip

noncomputable def f102_L0 (S : Seam (Value × Heap)) (C : CallF) (n : Nat) : Nat → Value → Value → Value → Value → Heap → Option (Value × Heap)
 | 0, _, _, _, _, _ => none
 | m + 1, y7, y8, y9, y10, H11 =>
  S.b (up (binB Tryd.prog .lss 3 y10 (.int .i64 4)) H11) fun y12 H13 =>
  S.i y12
  (S.b (up (iAddrA 4 1 y7 y10) H13) fun y14 H15 =>
  S.c true (S.b (ldC y14 H15) fun y16 H17 =>
  S.b (up (iAddrA 4 1 y8 y10) H17) fun y18 H19 =>
  S.c true (S.b (ldC y18 H19) fun y20 H21 =>
  S.b (up (binB Tryd.prog .or 54 y16 y20) H21) fun y22 H23 =>
  S.b (up (iAddrA 4 1 y7 y10) H23) fun y24 H25 =>
  S.b (stV 1 y24 y22 H25) fun _ H26 =>
  S.c true (S.b (up (binB Tryd.prog .add 3 y10 (.int .i64 1)) H26) fun y27 H28 =>
  f102_L0 S C n m y7 y8 y9 y27 H28))))
  (S.b (ldA 4 y7 H13) fun y29 H30 =>
  S.b (stV 4 y9 y29 H30) fun _ H31 =>
    (resM [(ldA 4 y9 H31).map (·.1)]).map fun l => (one l, H31))

theorem f102_L0_eq (S : Seam (Value × Heap)) (C : CallF) (n : Nat) : ∀ (m : Nat) (env : Env) (H : Heap), aloopK (acodeK S Tryd.prog C n 19 (cAt f102_c [1, 0, 1, 0, 0])) m env H (kAt S Tryd.prog C n 19 f102_c [1, 0, 1, 0] (fin Tryd.prog Tryd.f102)) = f102_L0 S C n m (env 2) (env 3) (env 4) (env 6) H := by
  intro m env H
  refine aloopK_eq (L := fun m env H => f102_L0 S C n m (env 2) (env 3) (env 4) (env 6) H) (fun env H => rfl) (fun m env H => ?_) m env H
  kernel_rfl


noncomputable def f102 (S : Seam (Value × Heap)) (C : CallF) (n : Nat) (x0 : Value) (x1 : Value) (H : Heap) : Option (Value × Heap) :=
 S.b (newV (Value.cells x0).toList H) fun y1 H2 =>
 S.b (newV (Value.cells x1).toList H2) fun y3 H4 =>
 S.b (newV [(.int .u64 0), (.int .u64 0), (.int .u64 0), (.int .u64 0)] H4) fun y5 H6 =>
 f102_L0 S C n n y1 y3 y5 (.int .i64 0) H6

noncomputable def f102G (S : Seam (Value × Heap)) (C : CallF) (n : Nat) (P0 : Env → Heap → Option (Value × Heap)) (x0 : Value) (x1 : Value) (H : Heap) : Option (Value × Heap) :=
 S.b (newV (Value.cells x0).toList H) fun y32 H33 =>
 S.b (newV (Value.cells x1).toList H33) fun y34 H35 =>
 S.b (newV [(.int .u64 0), (.int .u64 0), (.int .u64 0), (.int .u64 0)] H35) fun y36 H37 =>
 P0 (putE 19 (putE 19 (putE 19 (putE 19 (env0 [x0, x1]) (some 2) y32) (some 3) y34) (some 4) y36) (some 6) (.int .i64 0)) H37

theorem f102_main (S : Seam (Value × Heap)) (C : CallF) (n : Nat) (x0 : Value) (x1 : Value) (H : Heap) : acodeK S Tryd.prog C n 19 f102_c (env0 [x0, x1]) H (fin Tryd.prog Tryd.f102) = f102 S C n x0 x1 H := by
  have h1 : acodeK S Tryd.prog C n 19 f102_c (env0 [x0, x1]) H (fin Tryd.prog Tryd.f102) = f102G S C n (fun env H => aloopK (acodeK S Tryd.prog C n 19 (cAt f102_c [1, 0, 1, 0, 0])) n env H (kAt S Tryd.prog C n 19 f102_c [1, 0, 1, 0] (fin Tryd.prog Tryd.f102))) x0 x1 H := by kernel_rfl
  have e0 : (fun env H => aloopK (acodeK S Tryd.prog C n 19 (cAt f102_c [1, 0, 1, 0, 0])) n env H (kAt S Tryd.prog C n 19 f102_c [1, 0, 1, 0] (fin Tryd.prog Tryd.f102))) = (fun env H => f102_L0 S C n n (env 2) (env 3) (env 4) (env 6) H) := by funext env H; exact f102_L0_eq S C n n env H
  rw [e0] at h1
  exact h1.trans (by kernel_rfl)


theorem f102_eq {E : Ext} (hE : E 102 = none) (n : Nat) (x0 : Value) (x1 : Value) (H : Heap) : acall Tryd.prog true E (n + 1) 102 [x0, x1] H = f102 real (acall Tryd.prog true E n) n x0 x1 H :=
  (acall_eq (N := 19) Tryd.func102 (by kernel_rfl) (by kernel_rfl) hE (by kernel_rfl) (by kernel_rfl)).trans (f102_main real _ n x0 x1 H)

noncomputable def f103_c : Code := (Tryd.f103.body).getD .skip

noncomputable def f103_J1 (S : Seam (Value × Heap)) (C : CallF) (n : Nat) (R1 : Value→Value→Value→Heap→Option (Value × Heap)) (y164 y165 y166 y167 : Value) (H168 : Heap) : Option (Value × Heap) :=
 S.b (up (binB Tryd.prog .mul 3 y165 (.int .i64 16)) H168) fun y169 H170 =>
 S.b (up (binB Tryd.prog .add 3 y169 y166) H170) fun y171 H172 =>
 S.b (nilC y164 H172) fun y173 H174 =>
 S.b (up (fAddr 1 y173) H174) fun y175 H176 =>
 S.b (ldC y175 H176) fun y177 H178 =>
 S.b (up (binB Tryd.prog .add 3 y177 (.int .i64 1)) H178) fun y179 H180 =>
 S.b (nilC y164 H180) fun y181 H182 =>
 S.b (up (fAddr 1 y181) H182) fun y183 H184 =>
 S.b (stV 1 y183 y179 H184) fun _ H185 =>
 S.b (up (binB Tryd.prog .add 3 y167 (.int .i64 1)) H185) fun y186 H187 =>
 R1 y164 y171 y186 H187

noncomputable def f103_J2 (S : Seam (Value × Heap)) (C : CallF) (n : Nat) (R1 : Value→Value→Value→Heap→Option (Value × Heap)) (y155 y156 y157 y158 : Value) (H159 : Heap) : Option (Value × Heap) :=
 S.b (up (binB Tryd.prog .lss 3 y157 (.int .i64 0)) H159) fun y160 H161 =>
 S.i y160
 (S.b (C 47 [y155] H161) fun y162 H163 =>
  f103_J1 S C n R1 y155 y156 y157 y158 H163)
 (f103_J1 S C n R1 y155 y156 y157 y158 H161)

noncomputable def f103_L1 (S : Seam (Value × Heap)) (C : CallF) (n : Nat) : Nat → Value → Value → Value → Heap → Option (Value × Heap)
 | 0, _, _, _, _ => none
 | m + 1, y117, y118, y119, H120 =>
  S.b (up (binB Tryd.prog .lss 3 y119 (.int .i64 2)) H120) fun y121 H122 =>
  S.i y121
  (S.b (nilC y117 H122) fun y123 H124 =>
  S.b (up (fAddr 1 y123) H124) fun y125 H126 =>
  S.c true (S.b (ldC y125 H126) fun y127 H128 =>
  S.b (nilC y117 H128) fun y129 H130 =>
  S.b (up (fAddr 0 y129) H130) fun y131 H132 =>
  S.c true (S.b (ldC y131 H132) fun y133 H134 =>
  S.b (up (lenStr y133) H134) fun y135 H136 =>
  S.b (up (binB Tryd.prog .lss 3 y127 y135) H136) fun y137 H138 =>
  S.i y137
  (S.b (nilC y117 H138) fun y139 H140 =>
  S.b (up (fAddr 0 y139) H140) fun y141 H142 =>
  S.c true (S.b (ldC y141 H142) fun y143 H144 =>
  S.b (nilC y117 H144) fun y145 H146 =>
  S.b (up (fAddr 1 y145) H146) fun y147 H148 =>
  S.c true (S.b (ldC y147 H148) fun y149 H150 =>
  S.b (up (idxS y143 y149) H150) fun y151 H152 =>
  S.b (C 89 [(.string ⟨#[48, 49, 50, 51, 52, 53, 54, 55, 56, 57, 97, 98, 99, 100, 101, 102]⟩), y151] H152) fun y153 H154 =>
  S.c true (f103_J2 S C n (f103_L1 S C n m) y117 y118 y153 y119 H154))))
  (f103_J2 S C n (f103_L1 S C n m) y117 y118 (.int .i64 (-1)) y119 H138))))
  (S.b (cvI .u8 y118 H122) fun y188 H189 =>
  some (y188, H189))

theorem f103_L1_eq (S : Seam (Value × Heap)) (C : CallF) (n : Nat) : ∀ (m : Nat) (env : Env) (H : Heap), aloopK (acodeK S Tryd.prog C n 113 (cAt f103_c [1, 1, 1, 1, 1, 1, 1, 0, 1, 0, 0])) m env H (kAt S Tryd.prog C n 113 f103_c [1, 1, 1, 1, 1, 1, 1, 0, 1, 0] (fin Tryd.prog Tryd.f103)) = f103_L1 S C n m (env 0) (env 6) (env 73) H := by
  intro m env H
  refine aloopK_eq (L := fun m env H => f103_L1 S C n m (env 0) (env 6) (env 73) H) (fun env H => rfl) (fun m env H => ?_) m env H
  kernel_rfl


noncomputable def f103_J3 (S : Seam (Value × Heap)) (C : CallF) (n : Nat) (y102 : Value) (H103 : Heap) : Option (Value × Heap) :=
 S.b (nilC y102 H103) fun y104 H105 =>
 S.b (up (fAddr 1 y104) H105) fun y106 H107 =>
 S.b (ldC y106 H107) fun y108 H109 =>
 S.b (up (binB Tryd.prog .add 3 y108 (.int .i64 1)) H109) fun y110 H111 =>
 S.b (nilC y102 H111) fun y112 H113 =>
 S.b (up (fAddr 1 y112) H113) fun y114 H115 =>
 S.b (stV 1 y114 y110 H115) fun _ H116 =>
 f103_L1 S C n n y102 (.int .i64 0) (.int .i64 0) H116

noncomputable def f103_L0 (S : Seam (Value × Heap)) (C : CallF) (n : Nat) : Nat → Value → Value → Value → Value → Value → Heap → Option (Value × Heap)
 | 0, _, _, _, _, _, _ => none
 | m + 1, y39, y40, y41, y42, y43, H44 =>
  S.b (up (binB Tryd.prog .lss 3 y43 y42) H44) fun y45 H46 =>
  S.i y45
  (S.b (up (iAddrS 2 y41 y43) H46) fun y47 H48 =>
  S.b (ldA 2 y47 H48) fun y49 H50 =>
  S.b (newV [(.int .u8 0), (.int .u8 0)] H50) fun y51 H52 =>
  S.b (stV 2 y51 y49 H52) fun _ H53 =>
  S.b (up (fAddr 0 y51) H53) fun y54 H55 =>
  S.b (ldC y54 H55) fun y56 H57 =>
  S.b (up (binB Tryd.prog .eql 5 y56 y40) H57) fun y58 H59 =>
  S.i y58
  (S.b (nilC y39 H59) fun y60 H61 =>
  S.b (up (fAddr 1 y60) H61) fun y62 H63 =>
  S.b (ldC y62 H63) fun y64 H65 =>
  S.b (up (binB Tryd.prog .add 3 y64 (.int .i64 1)) H65) fun y66 H67 =>
  S.b (nilC y39 H67) fun y68 H69 =>
  S.b (up (fAddr 1 y68) H69) fun y70 H71 =>
  S.b (stV 1 y70 y66 H71) fun _ H72 =>
  S.b (up (fAddr 1 y51) H72) fun y73 H74 =>
  S.b (ldC y73 H74) fun y75 H76 =>
  some (y75, H76))
  (S.b (up (binB Tryd.prog .add 3 y43 (.int .i64 1)) H59) fun y77 H78 =>
  f103_L0 S C n m y39 y40 y41 y42 y77 H78))
  (S.b (C 89 [(.string ⟨#[40, 41, 91, 93, 124, 42, 43, 63, 46, 92, 47, 94, 45]⟩), y40] H46) fun y79 H80 =>
  S.b (up (binB Tryd.prog .geq 3 y79 (.int .i64 0)) H80) fun y81 H82 =>
  S.i y81
  (S.b (nilC y39 H82) fun y83 H84 =>
  S.b (up (fAddr 1 y83) H84) fun y85 H86 =>
  S.b (ldC y85 H86) fun y87 H88 =>
  S.b (up (binB Tryd.prog .add 3 y87 (.int .i64 1)) H88) fun y89 H90 =>
  S.b (nilC y39 H90) fun y91 H92 =>
  S.b (up (fAddr 1 y91) H92) fun y93 H94 =>
  S.b (stV 1 y93 y89 H94) fun _ H95 =>
  some (y40, H95))
  (S.b (up (binB Tryd.prog .neq 5 y40 (.int .u8 120)) H82) fun y96 H97 =>
  S.i y96
  (S.b (C 47 [y39] H97) fun y98 H99 =>
  f103_J3 S C n y39 H99)
  (f103_J3 S C n y39 H97)))

noncomputable def f103_L0G (S : Seam (Value × Heap)) (C : CallF) (n : Nat) (R0 : Value→Value→Value→Value→Value→Heap→Option (Value × Heap)) (P1 : Env → Heap → Option (Value × Heap)) (env : Env) (H : Heap) : Option (Value × Heap) :=
 S.b (up (binB Tryd.prog .lss 3 (env 31) (env 30)) H) fun y190 H191 =>
 S.i y190
 (S.b (up (iAddrS 2 (env 29) (env 31)) H191) fun y192 H193 =>
  S.b (ldA 2 y192 H193) fun y194 H195 =>
  S.b (newV [(.int .u8 0), (.int .u8 0)] H195) fun y196 H197 =>
  S.b (stV 2 y196 y194 H197) fun u198 H199 =>
  S.b (up (fAddr 0 y196) H199) fun y200 H201 =>
  S.b (ldC y200 H201) fun y202 H203 =>
  S.b (up (binB Tryd.prog .eql 5 y202 (env 3)) H203) fun y204 H205 =>
  S.i y204
  (S.b (nilC (env 0) H205) fun y206 H207 =>
  S.b (up (fAddr 1 y206) H207) fun y208 H209 =>
  S.b (ldC y208 H209) fun y210 H211 =>
  S.b (up (binB Tryd.prog .add 3 y210 (.int .i64 1)) H211) fun y212 H213 =>
  S.b (nilC (env 0) H213) fun y214 H215 =>
  S.b (up (fAddr 1 y214) H215) fun y216 H217 =>
  S.b (stV 1 y216 y212 H217) fun u218 H219 =>
  S.b (up (fAddr 1 y196) H219) fun y220 H221 =>
  S.b (ldC y220 H221) fun y222 H223 =>
  some (y222, H223))
  (S.b (up (binB Tryd.prog .add 3 (env 31) (.int .i64 1)) H205) fun y224 H225 =>
   R0 (env 0) (env 3) (env 29) (env 30) y224 H225))
 (S.b (C 89 [(.string ⟨#[40, 41, 91, 93, 124, 42, 43, 63, 46, 92, 47, 94, 45]⟩), (env 3)] H191) fun y226 H227 =>
  S.b (up (binB Tryd.prog .geq 3 y226 (.int .i64 0)) H227) fun y228 H229 =>
  S.i y228
  (S.b (nilC (env 0) H229) fun y230 H231 =>
  S.b (up (fAddr 1 y230) H231) fun y232 H233 =>
  S.b (ldC y232 H233) fun y234 H235 =>
  S.b (up (binB Tryd.prog .add 3 y234 (.int .i64 1)) H235) fun y236 H237 =>
  S.b (nilC (env 0) H237) fun y238 H239 =>
  S.b (up (fAddr 1 y238) H239) fun y240 H241 =>
  S.b (stV 1 y240 y236 H241) fun u242 H243 =>
  some ((env 3), H243))
  (S.b (up (binB Tryd.prog .neq 5 (env 3) (.int .u8 120)) H229) fun y244 H245 =>
  S.i y244
  (S.b (C 47 [(env 0)] H245) fun y246 H247 =>
  S.b (nilC (env 0) H247) fun y248 H249 =>
  S.b (up (fAddr 1 y248) H249) fun y250 H251 =>
  S.b (ldC y250 H251) fun y252 H253 =>
  S.b (up (binB Tryd.prog .add 3 y252 (.int .i64 1)) H253) fun y254 H255 =>
  S.b (nilC (env 0) H255) fun y256 H257 =>
  S.b (up (fAddr 1 y256) H257) fun y258 H259 =>
  S.b (stV 1 y258 y254 H259) fun u260 H261 =>
    P1 (putE 113 (putE 113 (putE 113 (putE 113 (putE 113 (putE 113 (putE 113 (putE 113 (putE 113 (putE 113 (putE 113 (putE 113 (putE 113 (putE 113 (putE 113 (putE 113 (putE 113 (putE 113 (putE 113 (putE 113 env (some 32) y190) (some 50) (env 3)) (some 51) y226) (some 52) y228) (some 49) y228) (some 62) (env 3)) (some 63) y244) (some 61) y244) (some 64) (env 0)) (some 65) y246) (some 66) (env 0)) (some 67) y248) (some 68) y250) (some 69) y252) (some 70) y254) (some 71) y256) (some 72) y258) none u260) (some 6) (.int .i64 0)) (some 73) (.int .i64 0)) H261)
  (S.b (nilC (env 0) H245) fun y262 H263 =>
  S.b (up (fAddr 1 y262) H263) fun y264 H265 =>
  S.b (ldC y264 H265) fun y266 H267 =>
  S.b (up (binB Tryd.prog .add 3 y266 (.int .i64 1)) H267) fun y268 H269 =>
  S.b (nilC (env 0) H269) fun y270 H271 =>
  S.b (up (fAddr 1 y270) H271) fun y272 H273 =>
  S.b (stV 1 y272 y268 H273) fun u274 H275 =>
    P1 (putE 113 (putE 113 (putE 113 (putE 113 (putE 113 (putE 113 (putE 113 (putE 113 (putE 113 (putE 113 (putE 113 (putE 113 (putE 113 (putE 113 (putE 113 (putE 113 (putE 113 (putE 113 env (some 32) y190) (some 50) (env 3)) (some 51) y226) (some 52) y228) (some 49) y228) (some 62) (env 3)) (some 63) y244) (some 61) y244) (some 66) (env 0)) (some 67) y262) (some 68) y264) (some 69) y266) (some 70) y268) (some 71) y270) (some 72) y272) none u274) (some 6) (.int .i64 0)) (some 73) (.int .i64 0)) H275)))

theorem f103_L0_eq (S : Seam (Value × Heap)) (C : CallF) (n : Nat) : ∀ (m : Nat) (env : Env) (H : Heap), aloopK (acodeK S Tryd.prog C n 113 (cAt f103_c [1, 1, 1, 0, 1, 0, 0])) m env H (kAt S Tryd.prog C n 113 f103_c [1, 1, 1, 0, 1, 0] (fin Tryd.prog Tryd.f103)) = f103_L0 S C n m (env 0) (env 3) (env 29) (env 30) (env 31) H := by
  intro m env H
  refine aloopK_eq (L := fun m env H => f103_L0 S C n m (env 0) (env 3) (env 29) (env 30) (env 31) H) (fun env H => rfl) (fun m env H => ?_) m env H
  have h1 : acodeK S Tryd.prog C n 113 (cAt f103_c [1, 1, 1, 0, 1, 0, 0]) env H (onNormal (fun env' H' => f103_L0 S C n m (env' 0) (env' 3) (env' 29) (env' 30) (env' 31) H') (kAt S Tryd.prog C n 113 f103_c [1, 1, 1, 0, 1, 0] (fin Tryd.prog Tryd.f103))) = f103_L0G S C n (f103_L0 S C n m) (fun env H => aloopK (acodeK S Tryd.prog C n 113 (cAt f103_c [1, 1, 1, 1, 1, 1, 1, 0, 1, 0, 0])) n env H (kAt S Tryd.prog C n 113 f103_c [1, 1, 1, 1, 1, 1, 1, 0, 1, 0] (fin Tryd.prog Tryd.f103))) env H := by kernel_rfl
  have e0 : (fun env H => aloopK (acodeK S Tryd.prog C n 113 (cAt f103_c [1, 1, 1, 1, 1, 1, 1, 0, 1, 0, 0])) n env H (kAt S Tryd.prog C n 113 f103_c [1, 1, 1, 1, 1, 1, 1, 0, 1, 0] (fin Tryd.prog Tryd.f103))) = (fun env H => f103_L1 S C n n (env 0) (env 6) (env 73) H) := by funext env H; exact f103_L1_eq S C n n env H
  rw [e0] at h1
  exact h1.trans (by kernel_rfl)


noncomputable def f103_J4 (S : Seam (Value × Heap)) (C : CallF) (n : Nat) (y19 : Value) (H20 : Heap) : Option (Value × Heap) :=
 S.b (nilC y19 H20) fun y21 H22 =>
 S.b (up (fAddr 0 y21) H22) fun y23 H24 =>
 S.c true (S.b (ldC y23 H24) fun y25 H26 =>
 S.b (nilC y19 H26) fun y27 H28 =>
 S.b (up (fAddr 1 y27) H28) fun y29 H30 =>
 S.c true (S.b (ldC y29 H30) fun y31 H32 =>
 S.b (up (idxS y25 y31) H32) fun y33 H34 =>
 S.b (ldC (.pointer (some ⟨0, 0, none⟩)) H34) fun y35 H36 =>
 S.b (up (lenS y35) H36) fun y37 H38 =>
 f103_L0 S C n n y19 y33 y35 y37 (.int .i64 0) H38))

noncomputable def f103 (S : Seam (Value × Heap)) (C : CallF) (n : Nat) (x0 : Value) (H : Heap) : Option (Value × Heap) :=
 S.b (nilC x0 H) fun y1 H2 =>
 S.b (up (fAddr 1 y1) H2) fun y3 H4 =>
 S.c true (S.b (ldC y3 H4) fun y5 H6 =>
 S.b (nilC x0 H6) fun y7 H8 =>
 S.b (up (fAddr 0 y7) H8) fun y9 H10 =>
 S.c true (S.b (ldC y9 H10) fun y11 H12 =>
 S.b (up (lenStr y11) H12) fun y13 H14 =>
 S.b (up (binB Tryd.prog .eql 3 y5 y13) H14) fun y15 H16 =>
 S.i y15
 (S.b (C 47 [x0] H16) fun y17 H18 =>
  f103_J4 S C n x0 H18)
 (f103_J4 S C n x0 H16)))

noncomputable def f103G (S : Seam (Value × Heap)) (C : CallF) (n : Nat) (P0 : Env → Heap → Option (Value × Heap)) (x0 : Value) (H : Heap) : Option (Value × Heap) :=
 S.b (nilC x0 H) fun y276 H277 =>
 S.b (up (fAddr 1 y276) H277) fun y278 H279 =>
 S.c true (S.b (ldC y278 H279) fun y280 H281 =>
 S.b (nilC x0 H281) fun y282 H283 =>
 S.b (up (fAddr 0 y282) H283) fun y284 H285 =>
 S.c true (S.b (ldC y284 H285) fun y286 H287 =>
 S.b (up (lenStr y286) H287) fun y288 H289 =>
 S.b (up (binB Tryd.prog .eql 3 y280 y288) H289) fun y290 H291 =>
 S.i y290
 (S.b (C 47 [x0] H291) fun y292 H293 =>
  S.b (nilC x0 H293) fun y294 H295 =>
  S.b (up (fAddr 0 y294) H295) fun y296 H297 =>
  S.c true (S.b (ldC y296 H297) fun y298 H299 =>
  S.b (nilC x0 H299) fun y300 H301 =>
  S.b (up (fAddr 1 y300) H301) fun y302 H303 =>
  S.c true (S.b (ldC y302 H303) fun y304 H305 =>
  S.b (up (idxS y298 y304) H305) fun y306 H307 =>
  S.b (ldC (.pointer (some ⟨0, 0, none⟩)) H307) fun y308 H309 =>
  S.b (up (lenS y308) H309) fun y310 H311 =>
  P0 (putE 113 (putE 113 (putE 113 (putE 113 (putE 113 (putE 113 (putE 113 (putE 113 (putE 113 (putE 113 (putE 113 (putE 113 (putE 113 (putE 113 (putE 113 (putE 113 (putE 113 (putE 113 (putE 113 (putE 113 (putE 113 (putE 113 (putE 113 (putE 113 (putE 113 (putE 113 (env0 [x0]) (some 2) (.int .u8 0)) (some 8) x0) (some 9) y276) (some 10) y278) (some 11) y280) (some 12) x0) (some 13) y282) (some 14) y284) (some 15) y286) (some 16) y288) (some 17) y290) (some 18) x0) (some 19) y292) (some 20) x0) (some 21) y294) (some 22) y296) (some 23) y298) (some 24) x0) (some 25) y300) (some 26) y302) (some 27) y304) (some 28) y306) (some 3) y306) (some 29) y308) (some 30) y310) (some 31) (.int .i64 0)) H311)))
 (S.b (nilC x0 H291) fun y312 H313 =>
  S.b (up (fAddr 0 y312) H313) fun y314 H315 =>
  S.c true (S.b (ldC y314 H315) fun y316 H317 =>
  S.b (nilC x0 H317) fun y318 H319 =>
  S.b (up (fAddr 1 y318) H319) fun y320 H321 =>
  S.c true (S.b (ldC y320 H321) fun y322 H323 =>
  S.b (up (idxS y316 y322) H323) fun y324 H325 =>
  S.b (ldC (.pointer (some ⟨0, 0, none⟩)) H325) fun y326 H327 =>
  S.b (up (lenS y326) H327) fun y328 H329 =>
  P0 (putE 113 (putE 113 (putE 113 (putE 113 (putE 113 (putE 113 (putE 113 (putE 113 (putE 113 (putE 113 (putE 113 (putE 113 (putE 113 (putE 113 (putE 113 (putE 113 (putE 113 (putE 113 (putE 113 (putE 113 (putE 113 (putE 113 (putE 113 (putE 113 (env0 [x0]) (some 2) (.int .u8 0)) (some 8) x0) (some 9) y276) (some 10) y278) (some 11) y280) (some 12) x0) (some 13) y282) (some 14) y284) (some 15) y286) (some 16) y288) (some 17) y290) (some 20) x0) (some 21) y312) (some 22) y314) (some 23) y316) (some 24) x0) (some 25) y318) (some 26) y320) (some 27) y322) (some 28) y324) (some 3) y324) (some 29) y326) (some 30) y328) (some 31) (.int .i64 0)) H329)))))

theorem f103_main (S : Seam (Value × Heap)) (C : CallF) (n : Nat) (x0 : Value) (H : Heap) : acodeK S Tryd.prog C n 113 f103_c (env0 [x0]) H (fin Tryd.prog Tryd.f103) = f103 S C n x0 H := by
  have h1 : acodeK S Tryd.prog C n 113 f103_c (env0 [x0]) H (fin Tryd.prog Tryd.f103) = f103G S C n (fun env H => aloopK (acodeK S Tryd.prog C n 113 (cAt f103_c [1, 1, 1, 0, 1, 0, 0])) n env H (kAt S Tryd.prog C n 113 f103_c [1, 1, 1, 0, 1, 0] (fin Tryd.prog Tryd.f103))) x0 H := by kernel_rfl
  have e0 : (fun env H => aloopK (acodeK S Tryd.prog C n 113 (cAt f103_c [1, 1, 1, 0, 1, 0, 0])) n env H (kAt S Tryd.prog C n 113 f103_c [1, 1, 1, 0, 1, 0] (fin Tryd.prog Tryd.f103))) = (fun env H => f103_L0 S C n n (env 0) (env 3) (env 29) (env 30) (env 31) H) := by funext env H; exact f103_L0_eq S C n n env H
  rw [e0] at h1
  exact h1.trans (by kernel_rfl)


end Go.Eng
