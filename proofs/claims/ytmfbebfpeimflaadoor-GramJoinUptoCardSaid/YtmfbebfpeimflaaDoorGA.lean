/- The functions, printed. -/
import Derived.Test.YtmfbebfpeimflaaDoorProg
import Derived.Test.YtmfbebfpeimflaaDoorEnhT
import Derived.KernelRfl
set_option linter.unusedVariables false
set_option maxRecDepth 100000
namespace Go.Eng
open Go Go.Proofs

/-! incunable/incunablelaw15.GramParses -/
noncomputable def f3_c : Code := (Tryd.f3.body).getD .skip

noncomputable def f3 (S : Seam (Value × Heap)) (C : CallF) (n : Nat) (x0 : Value) (H : Heap) : Option (Value × Heap) :=
 S.b (C 7 [x0] H) fun y1 H2 =>
 S.b (C 8 [y1] H2) fun y3 H4 =>
 S.b (extr 0 y3 H4) fun y5 H6 =>
 S.b (extr 1 y3 H6) fun y7 H8 =>
 S.b (extr 2 y3 H8) fun y9 H10 =>
 S.b (newV [(.slice none 0 0), (.string ⟨#[]⟩), (.slice none 0 0), (.slice none 0 0), (.slice none 0 0)] H10) fun y11 H12 =>
 S.b (stV 5 y11 y5 H12) fun _ H13 =>
 S.b (C 9 [x0] H13) fun y14 H15 =>
 S.b (extr 0 y14 H15) fun y16 H17 =>
 S.b (extr 1 y14 H17) fun y18 H19 =>
 S.b (extr 2 y14 H19) fun y20 H21 =>
 S.b (newV [(.slice none 0 0), (.string ⟨#[]⟩), (.slice none 0 0), (.slice none 0 0), (.slice none 0 0)] H21) fun y22 H23 =>
 S.b (stV 5 y22 y16 H23) fun _ H24 =>
 S.b (ldA 5 y11 H24) fun y25 H26 =>
 S.b (ldA 5 y22 H26) fun y27 H28 =>
 S.b (C 10 [y25, y27] H28) fun y29 H30 =>
 S.b (gd (wd y29 true) (some (y7, H30)) H30) fun y31 H32 =>
 S.b (gd (wd y29 true) (some (y18, H32)) H32) fun y33 H34 =>
 S.b (gd (wd y29 true) (up (binB Tryd.prog .eql 3 y31 y33) H34) H34) fun y35 H36 =>
 S.b (pickV y29 y35 (.bool false) H36) fun y37 H38 =>
 S.b (gd (wd y37 true) (some (y9, H38)) H38) fun y39 H40 =>
 S.b (gd (wd y37 true) (some (y20, H40)) H40) fun y41 H42 =>
 S.b (gd (wd y37 true) (up (binB Tryd.prog .eql 30 y39 y41) H42) H42) fun y43 H44 =>
 S.b (pickV y37 y43 (.bool false) H44) fun y45 H46 =>
 S.b (gd (wd y45 true) (some (y1, H46)) H46) fun y47 H48 =>
 S.b (gd (wd y45 true) (some (x0, H48)) H48) fun y49 H50 =>
 S.b (gd (wd y45 true) (C 11 [y47, y49] H50) H50) fun y51 H52 =>
 S.b (pickV y45 y51 (.bool false) H52) fun y53 H54 =>
 S.b (gd (wd y53 true) (C 12 [] H54) H54) fun y55 H56 =>
 S.b (pickV y53 y55 (.bool false) H56) fun y57 H58 =>
 some (y57, H58)

theorem f3_main (S : Seam (Value × Heap)) (C : CallF) (n : Nat) (x0 : Value) (H : Heap) : acodeK S Tryd.prog C n 45 f3_c (env0 [x0]) H (fin Tryd.prog Tryd.f3) = f3 S C n x0 H := by
  kernel_rfl


theorem f3_eq {E : Ext} (hE : E 3 = none) (n : Nat) (x0 : Value) (H : Heap) : acall Tryd.prog true E (n + 1) 3 [x0] H = f3 real (acall Tryd.prog true E n) n x0 H :=
  (acall_eq (N := 45) Tryd.func3 (by kernel_rfl) (by kernel_rfl) hE (by kernel_rfl) (by kernel_rfl)).trans (f3_main real _ n x0 H)

/-! incunable/incunablelaw15.GramJoin -/
noncomputable def f4_c : Code := (Tryd.f4.body).getD .skip

noncomputable def f4 (S : Seam (Value × Heap)) (C : CallF) (n : Nat) (x0 : Value) (x1 : Value) (H : Heap) : Option (Value × Heap) :=
 S.b (up (lenS x0) H) fun y1 H2 =>
 S.b (minV y1 (.int .i64 4000) H2) fun y3 H4 =>
 S.b (up (slcS 1 x0 none (some y3) none) H4) fun y5 H6 =>
 S.b (up (lenS x1) H6) fun y7 H8 =>
 S.b (minV y7 (.int .i64 4000) H8) fun y9 H10 =>
 S.b (up (slcS 1 x1 none (some y9) none) H10) fun y11 H12 =>
 S.b (C 8 [y5] H12) fun y13 H14 =>
 S.b (extr 0 y13 H14) fun y15 H16 =>
 S.b (extr 1 y13 H16) fun y17 H18 =>
 S.b (extr 2 y13 H18) fun y19 H20 =>
 S.b (newV [(.slice none 0 0), (.string ⟨#[]⟩), (.slice none 0 0), (.slice none 0 0), (.slice none 0 0)] H20) fun y21 H22 =>
 S.b (stV 5 y21 y15 H22) fun _ H23 =>
 S.b (C 8 [y11] H23) fun y24 H25 =>
 S.b (extr 0 y24 H25) fun y26 H27 =>
 S.b (extr 1 y24 H27) fun y28 H29 =>
 S.b (extr 2 y24 H29) fun y30 H31 =>
 S.b (newV [(.slice none 0 0), (.string ⟨#[]⟩), (.slice none 0 0), (.slice none 0 0), (.slice none 0 0)] H31) fun y32 H33 =>
 S.b (stV 5 y32 y26 H33) fun _ H34 =>
 S.b (up (binB Tryd.prog .neq 30 y19 (.int .i64 0)) H34) fun y35 H36 =>
 S.b (gd (wd y35 false) (some (y30, H36)) H36) fun y37 H38 =>
 S.b (gd (wd y35 false) (up (binB Tryd.prog .neq 30 y37 (.int .i64 0)) H38) H38) fun y39 H40 =>
 S.b (pickV y35 (.bool true) y39 H40) fun y41 H42 =>
 S.i y41
 (S.b (C 12 [] H42) fun y43 H44 =>
  some (y43, H44))
 (S.b (C 7 [y5] H42) fun y45 H46 =>
  S.b (bldS 1 1 [(.int .u8 0)] [(0, 1, (.int .u8 10))] H46) fun y47 H48 =>
  S.b (app 1 1 y45 y47 H48) fun y49 H50 =>
  S.b (app 1 1 y49 y11 H50) fun y51 H52 =>
  S.b (C 8 [y51] H52) fun y53 H54 =>
  S.b (extr 0 y53 H54) fun y55 H56 =>
  S.b (extr 1 y53 H56) fun y57 H58 =>
  S.b (extr 2 y53 H58) fun y59 H60 =>
  S.b (newV [(.slice none 0 0), (.string ⟨#[]⟩), (.slice none 0 0), (.slice none 0 0), (.slice none 0 0)] H60) fun y61 H62 =>
  S.b (stV 5 y61 y55 H62) fun _ H63 =>
  S.b (up (fAddr 1 y21) H63) fun y64 H65 =>
  S.b (ldC y64 H65) fun y66 H67 =>
  S.b (up (binB Tryd.prog .neq 9 y66 (.string ⟨#[]⟩)) H67) fun y68 H69 =>
  S.b (gd (wd y68 true) (up (fAddr 1 y32) H69) H69) fun y70 H71 =>
  S.b (gd (wd y68 true) (ldC y70 H71) H71) fun y72 H73 =>
  S.b (gd (wd y68 true) (up (binB Tryd.prog .neq 9 y72 (.string ⟨#[]⟩)) H73) H73) fun y74 H75 =>
  S.b (pickV y68 y74 (.bool false) H75) fun y76 H77 =>
  S.i y76
  (S.b (up (binB Tryd.prog .eql 30 y59 (.int .i64 150)) H77) fun y78 H79 =>
   S.b (gd (wd y78 true) (some (y57, H79)) H79) fun y80 H81 =>
   S.b (gd (wd y78 true) (some (y5, H81)) H81) fun y82 H83 =>
   S.b (gd (wd y78 true) (up (lenS y82) H83) H83) fun y84 H85 =>
   S.b (gd (wd y78 true) (up (binB Tryd.prog .gtr 3 y80 y84) H85) H85) fun y86 H87 =>
   S.b (pickV y78 y86 (.bool false) H87) fun y88 H89 =>
   S.b (gd (wd y88 true) (C 12 [] H89) H89) fun y90 H91 =>
   S.b (pickV y88 y90 (.bool false) H91) fun y92 H93 =>
   some (y92, H93))
  (S.b (up (binB Tryd.prog .eql 30 y59 (.int .i64 0)) H77) fun y94 H95 =>
   S.c (!(wd y94 true) || true) (S.b (gd (wd y94 true) (ldA 5 y61 H95) H95) fun y96 H97 =>
   S.c (!(wd y94 true) || true) (S.b (gd (wd y94 true) (ldA 5 y21 H97) H97) fun y98 H99 =>
   S.c (!(wd y94 true) || true) (S.b (gd (wd y94 true) (ldA 5 y32 H99) H99) fun y100 H101 =>
   S.b (gd (wd y94 true) (C 13 [y98, y100] H101) H101) fun y102 H103 =>
   S.c (!(wd y94 true) || (sameBlk H101 H103 (if (wd y94 true) then blkOf y61 else none) && true)) (S.b (gd (wd y94 true) (C 10 [y96, y102] H103) H103) fun y104 H105 =>
    S.c (!(wd y94 true) || true) (S.b (pickV y94 y104 (.bool false) H105) fun y106 H107 =>
     S.b (gd (wd y106 true) (C 12 [] H107) H107) fun y108 H109 =>
     S.c (!(wd y106 true) || true) (S.b (pickV y106 y108 (.bool false) H109) fun y110 H111 =>
      some (y110, H111)))))))))

theorem f4_main (S : Seam (Value × Heap)) (C : CallF) (n : Nat) (x0 : Value) (x1 : Value) (H : Heap) : acodeK S Tryd.prog C n 85 f4_c (env0 [x0, x1]) H (fin Tryd.prog Tryd.f4) = f4 S C n x0 x1 H := by
  kernel_rfl


theorem f4_eq {E : Ext} (hE : E 4 = none) (n : Nat) (x0 : Value) (x1 : Value) (H : Heap) : acall Tryd.prog true E (n + 1) 4 [x0, x1] H = f4 real (acall Tryd.prog true E n) n x0 x1 H :=
  (acall_eq (N := 85) Tryd.func4 (by kernel_rfl) (by kernel_rfl) hE (by kernel_rfl) (by kernel_rfl)).trans (f4_main real _ n x0 x1 H)

/-! incunable/incunablelaw15.GramPlace -/
noncomputable def f5_c : Code := (Tryd.f5.body).getD .skip

noncomputable def f5 (S : Seam (Value × Heap)) (C : CallF) (n : Nat) (x0 : Value) (H : Heap) : Option (Value × Heap) :=
 S.b (C 8 [x0] H) fun y1 H2 =>
 S.b (extr 0 y1 H2) fun y3 H4 =>
 S.b (extr 1 y1 H4) fun y5 H6 =>
 S.b (extr 2 y1 H6) fun y7 H8 =>
 S.b (newV [(.slice none 0 0), (.string ⟨#[]⟩), (.slice none 0 0), (.slice none 0 0), (.slice none 0 0)] H8) fun y9 H10 =>
 S.b (stV 5 y9 y3 H10) fun _ H11 =>
 S.b (up (binB Tryd.prog .neq 30 y7 (.int .i64 150)) H11) fun y12 H13 =>
 S.i y12
 (S.b (C 12 [] H13) fun y14 H15 =>
  some (y14, H15))
 (S.b (up (binB Tryd.prog .lss 3 y5 (.int .i64 0)) H13) fun y16 H17 =>
  S.b (gd (wd y16 false) (some (y5, H17)) H17) fun y18 H19 =>
  S.b (gd (wd y16 false) (some (x0, H19)) H19) fun y20 H21 =>
  S.b (gd (wd y16 false) (up (lenS y20) H21) H21) fun y22 H23 =>
  S.b (gd (wd y16 false) (up (binB Tryd.prog .gtr 3 y18 y22) H23) H23) fun y24 H25 =>
  S.b (pickV y16 (.bool true) y24 H25) fun y26 H27 =>
  S.i y26
  (some ((.bool false), H27))
  (S.b (up (slcS 1 x0 none (some y5) none) H27) fun y28 H29 =>
   S.b (C 8 [y28] H29) fun y30 H31 =>
   S.b (extr 0 y30 H31) fun y32 H33 =>
   S.b (extr 1 y30 H33) fun y34 H35 =>
   S.b (extr 2 y30 H35) fun y36 H37 =>
   S.b (newV [(.slice none 0 0), (.string ⟨#[]⟩), (.slice none 0 0), (.slice none 0 0), (.slice none 0 0)] H37) fun y38 H39 =>
   S.b (stV 5 y38 y32 H39) fun _ H40 =>
   S.b (up (binB Tryd.prog .eql 30 y36 (.int .i64 0)) H40) fun y41 H42 =>
   S.b (gd (wd y41 false) (some (y36, H42)) H42) fun y43 H44 =>
   S.b (gd (wd y41 false) (up (binB Tryd.prog .eql 30 y43 (.int .i64 150)) H44) H44) fun y45 H46 =>
   S.b (gd (wd y41 false) (some (y45, H46)) H46) fun y47 H48 =>
   S.b (gd (wd y47 true) (some (y34, H48)) H48) fun y49 H50 =>
   S.b (gd (wd y47 true) (some (y5, H50)) H50) fun y51 H52 =>
   S.b (gd (wd y47 true) (up (binB Tryd.prog .eql 3 y49 y51) H52) H52) fun y53 H54 =>
   S.b (gd (wd y41 false) (pickV y47 y53 (.bool false) H54) H54) fun y55 H56 =>
   S.b (pickV y41 (.bool true) y55 H56) fun y57 H58 =>
   S.b (gd (wd y57 true) (C 12 [] H58) H58) fun y59 H60 =>
   S.b (pickV y57 y59 (.bool false) H60) fun y61 H62 =>
   some (y61, H62)))

theorem f5_main (S : Seam (Value × Heap)) (C : CallF) (n : Nat) (x0 : Value) (H : Heap) : acodeK S Tryd.prog C n 48 f5_c (env0 [x0]) H (fin Tryd.prog Tryd.f5) = f5 S C n x0 H := by
  kernel_rfl


theorem f5_eq {E : Ext} (hE : E 5 = none) (n : Nat) (x0 : Value) (H : Heap) : acall Tryd.prog true E (n + 1) 5 [x0] H = f5 real (acall Tryd.prog true E n) n x0 H :=
  (acall_eq (N := 48) Tryd.func5 (by kernel_rfl) (by kernel_rfl) hE (by kernel_rfl) (by kernel_rfl)).trans (f5_main real _ n x0 H)

/-! incunable/incunableref00.CopyBytes -/
noncomputable def f7_c : Code := (Tryd.f7.body).getD .skip

noncomputable def f7 (S : Seam (Value × Heap)) (C : CallF) (n : Nat) (x0 : Value) (H : Heap) : Option (Value × Heap) :=
 S.b (app 1 1 (.slice none 0 0) x0 H) fun y1 H2 =>
 some (y1, H2)

theorem f7_main (S : Seam (Value × Heap)) (C : CallF) (n : Nat) (x0 : Value) (H : Heap) : acodeK S Tryd.prog C n 8 f7_c (env0 [x0]) H (fin Tryd.prog Tryd.f7) = f7 S C n x0 H := by
  kernel_rfl


theorem f7_eq {E : Ext} (hE : E 7 = none) (n : Nat) (x0 : Value) (H : Heap) : acall Tryd.prog true E (n + 1) 7 [x0] H = f7 real (acall Tryd.prog true E n) n x0 H :=
  (acall_eq (N := 8) Tryd.func7 (by kernel_rfl) (by kernel_rfl) hE (by kernel_rfl) (by kernel_rfl)).trans (f7_main real _ n x0 H)

/-! incunable/gram.Parse -/
noncomputable def f8_c : Code := (Tryd.f8.body).getD .skip

noncomputable def f8_L0 (S : Seam (Value × Heap)) (C : CallF) (n : Nat) : Nat → Value → Value → Value → Value → Heap → Option (Value × Heap)
 | 0, _, _, _, _, _ => none
 | m + 1, y22, y23, y24, y25, H26 =>
   S.b (nilC y25 H26) fun y27 H28 =>
   S.b (up (fAddr 1 y27) H28) fun y29 H30 =>
   S.b (ldC y29 H30) fun y31 H32 =>
   S.b (up (lenS y31) H32) fun y33 H34 =>
   S.b (up (binB Tryd.prog .gtr 3 y33 (.int .i64 0)) H34) fun y35 H36 =>
   S.b (gd (wd y35 true) (some (y25, H36)) H36) fun y37 H38 =>
   S.b (gd (wd y35 true) (nilC y37 H38) H38) fun y39 H40 =>
   S.b (gd (wd y35 true) (up (fAddr 2 y39) H40) H40) fun y41 H42 =>
   S.b (gd (wd y35 true) (ldC y41 H42) H42) fun y43 H44 =>
   S.b (gd (wd y35 true) (up (unB .not y43) H44) H44) fun y45 H46 =>
   S.b (pickV y35 y45 (.bool false) H46) fun y47 H48 =>
   S.i y47
   (S.b (C 18 [y25, y24] H48) fun y49 H50 =>
    f8_L0 S C n m y22 y23 y24 y25 H50)
   (S.b (nilC y25 H48) fun y51 H52 =>
    S.b (up (fAddr 2 y51) H52) fun y53 H54 =>
    S.b (ldC y53 H54) fun y55 H56 =>
    S.b (gd (wd y55 true) (some (y25, H56)) H56) fun y57 H58 =>
    S.b (gd (wd y55 true) (nilC y57 H58) H58) fun y59 H60 =>
    S.b (gd (wd y55 true) (up (fAddr 1 y59) H60) H60) fun y61 H62 =>
    S.b (gd (wd y55 true) (ldC y61 H62) H62) fun y63 H64 =>
    S.b (gd (wd y55 true) (up (lenS y63) H64) H64) fun y65 H66 =>
    S.b (gd (wd y55 true) (up (binB Tryd.prog .gtr 3 y65 (.int .i64 0)) H66) H66) fun y67 H68 =>
    S.b (pickV y55 y67 (.bool false) H68) fun y69 H70 =>
    S.i y69
    (S.b (bld [(.slice none 0 0), (.string ⟨#[]⟩), (.slice none 0 0), (.slice none 0 0), (.slice none 0 0)] [] H70) fun y71 H72 =>
     S.b (nilC y25 H72) fun y73 H74 =>
     S.b (up (fAddr 1 y73) H74) fun y75 H76 =>
     S.c true (S.b (ldC y75 H76) fun y77 H78 =>
     S.b (up (iAddrS 3 y77 (.int .i64 0)) H78) fun y79 H80 =>
     S.b (up (fAddr 1 y79) H80) fun y81 H82 =>
     S.c true (S.b (ldC y81 H82) fun y83 H84 =>
     S.b (stV 5 y23 y71 H84) fun _ H85 =>
     S.c (sameBlk H84 H85 (blkOf y81) && (sameBlk H84 H85 (blkOf y75) && true)) ((resM [(ldA 5 y23 H85).map (·.1), some y83, some (.int .i64 150)]).map fun l => (one l, H85)))))
    (S.b (nilC y25 H70) fun y86 H87 =>
     S.b (up (fAddr 2 y86) H87) fun y88 H89 =>
     S.b (ldC y88 H89) fun y90 H91 =>
     S.i y90
     (S.b (bld [(.slice none 0 0), (.string ⟨#[]⟩), (.slice none 0 0), (.slice none 0 0), (.slice none 0 0)] [] H91) fun y92 H93 =>
      S.b (up (lenS y22) H93) fun y94 H95 =>
      S.b (stV 5 y23 y92 H95) fun _ H96 =>
      (resM [(ldA 5 y23 H96).map (·.1), some y94, some (.int .i64 150)]).map fun l => (one l, H96))
     (S.b (ldA 5 y24 H91) fun y97 H98 =>
      S.b (stV 5 y23 y97 H98) fun _ H99 =>
      (resM [(ldA 5 y23 H99).map (·.1), some (.int .i64 0), some (.int .i64 0)]).map fun l => (one l, H99))))

theorem f8_L0_eq (S : Seam (Value × Heap)) (C : CallF) (n : Nat) : ∀ (m : Nat) (env : Env) (H : Heap), aloopK (acodeK S Tryd.prog C n 70 (cAt f8_c [1, 1, 1, 1, 1, 0, 0, 0])) m env H (kAt S Tryd.prog C n 70 f8_c [1, 1, 1, 1, 1, 0, 0] (fin Tryd.prog Tryd.f8)) = f8_L0 S C n m (env 0) (env 2) (env 8) (env 9) H := by
  intro m env H
  refine aloopK_eq (L := fun m env H => f8_L0 S C n m (env 0) (env 2) (env 8) (env 9) H) (fun env H => rfl) (fun m env H => ?_) m env H
  kernel_rfl


noncomputable def f8 (S : Seam (Value × Heap)) (C : CallF) (n : Nat) (x0 : Value) (H : Heap) : Option (Value × Heap) :=
 S.b (newV [(.slice none 0 0), (.string ⟨#[]⟩), (.slice none 0 0), (.slice none 0 0), (.slice none 0 0)] H) fun y1 H2 =>
 S.b (C 17 [x0] H2) fun y3 H4 =>
 S.b (extr 0 y3 H4) fun y5 H6 =>
 S.b (extr 1 y3 H6) fun y7 H8 =>
 S.b (extr 2 y3 H8) fun y9 H10 =>
 S.b (up (binB Tryd.prog .neq 30 y9 (.int .i64 0)) H10) fun y11 H12 =>
 S.i y11
 (S.b (bld [(.slice none 0 0), (.string ⟨#[]⟩), (.slice none 0 0), (.slice none 0 0), (.slice none 0 0)] [] H12) fun y13 H14 =>
  S.b (stV 5 y1 y13 H14) fun _ H15 =>
  (resM [(ldA 5 y1 H15).map (·.1), some y7, some y9]).map fun l => (one l, H15))
 (S.b (newV [(.slice none 0 0), (.string ⟨#[]⟩), (.slice none 0 0), (.slice none 0 0), (.slice none 0 0)] H12) fun y16 H17 =>
  S.b (bld [(.slice none 0 0), (.slice none 0 0), (.bool false)] [(0, 1, x0), (1, 1, y5)] H17) fun y18 H19 =>
  S.b (newV (Value.cells y18).toList H19) fun y20 H21 =>
  f8_L0 S C n n x0 y1 y16 y20 H21)

noncomputable def f8G (S : Seam (Value × Heap)) (C : CallF) (n : Nat) (P0 : Env → Heap → Option (Value × Heap)) (x0 : Value) (H : Heap) : Option (Value × Heap) :=
 S.b (newV [(.slice none 0 0), (.string ⟨#[]⟩), (.slice none 0 0), (.slice none 0 0), (.slice none 0 0)] H) fun y100 H101 =>
 S.b (C 17 [x0] H101) fun y102 H103 =>
 S.b (extr 0 y102 H103) fun y104 H105 =>
 S.b (extr 1 y102 H105) fun y106 H107 =>
 S.b (extr 2 y102 H107) fun y108 H109 =>
 S.b (up (binB Tryd.prog .neq 30 y108 (.int .i64 0)) H109) fun y110 H111 =>
 S.i y110
 (S.b (bld [(.slice none 0 0), (.string ⟨#[]⟩), (.slice none 0 0), (.slice none 0 0), (.slice none 0 0)] [] H111) fun y112 H113 =>
  S.b (stV 5 y100 y112 H113) fun u114 H115 =>
  (resM [(ldA 5 y100 H115).map (·.1), some y106, some y108]).map fun l => (one l, H115))
 (S.b (newV [(.slice none 0 0), (.string ⟨#[]⟩), (.slice none 0 0), (.slice none 0 0), (.slice none 0 0)] H111) fun y116 H117 =>
  S.b (bld [(.slice none 0 0), (.slice none 0 0), (.bool false)] [(0, 1, x0), (1, 1, y104)] H117) fun y118 H119 =>
  S.b (newV (Value.cells y118).toList H119) fun y120 H121 =>
  P0 (putE 70 (putE 70 (putE 70 (putE 70 (putE 70 (putE 70 (putE 70 (putE 70 (putE 70 (putE 70 (putE 70 (putE 70 (putE 70 (putE 70 (putE 70 (putE 70 (putE 70 (putE 70 (putE 70 (putE 70 (env0 [x0]) (some 2) y100) (some 3) (.int .i64 0)) (some 4) (.int .i64 0)) (some 11) x0) (some 12) y102) (some 10) y102) (some 13) y104) (some 14) y106) (some 15) y108) (some 5) y104) (some 6) y106) (some 7) y108) (some 16) y108) (some 17) y110) (some 8) y116) (some 21) x0) (some 22) y104) (some 23) y118) (some 24) y120) (some 9) y120) H121)

theorem f8_main (S : Seam (Value × Heap)) (C : CallF) (n : Nat) (x0 : Value) (H : Heap) : acodeK S Tryd.prog C n 70 f8_c (env0 [x0]) H (fin Tryd.prog Tryd.f8) = f8 S C n x0 H := by
  have h1 : acodeK S Tryd.prog C n 70 f8_c (env0 [x0]) H (fin Tryd.prog Tryd.f8) = f8G S C n (fun env H => aloopK (acodeK S Tryd.prog C n 70 (cAt f8_c [1, 1, 1, 1, 1, 0, 0, 0])) n env H (kAt S Tryd.prog C n 70 f8_c [1, 1, 1, 1, 1, 0, 0] (fin Tryd.prog Tryd.f8))) x0 H := by kernel_rfl
  have e0 : (fun env H => aloopK (acodeK S Tryd.prog C n 70 (cAt f8_c [1, 1, 1, 1, 1, 0, 0, 0])) n env H (kAt S Tryd.prog C n 70 f8_c [1, 1, 1, 1, 1, 0, 0] (fin Tryd.prog Tryd.f8))) = (fun env H => f8_L0 S C n n (env 0) (env 2) (env 8) (env 9) H) := by funext env H; exact f8_L0_eq S C n n env H
  rw [e0] at h1
  exact h1.trans (by kernel_rfl)


theorem f8_eq {E : Ext} (hE : E 8 = none) (n : Nat) (x0 : Value) (H : Heap) : acall Tryd.prog true E (n + 1) 8 [x0] H = f8 real (acall Tryd.prog true E n) n x0 H :=
  (acall_eq (N := 70) Tryd.func8 (by kernel_rfl) (by kernel_rfl) hE (by kernel_rfl) (by kernel_rfl)).trans (f8_main real _ n x0 H)

/-! incunable/incunableref15.Parse -/
noncomputable def f9_c : Code := (Tryd.f9.body).getD .skip

noncomputable def f9_L0 (S : Seam (Value × Heap)) (C : CallF) (n : Nat) : Nat → Value → Value → Value → Value → Value → Heap → Option (Value × Heap)
 | 0, _, _, _, _, _, _ => none
 | m + 1, y24, y25, y26, y27, y28, H29 =>
   S.b (nilC y27 H29) fun y30 H31 =>
   S.b (up (fAddr 2 y30) H31) fun y32 H33 =>
   S.b (ldC y32 H33) fun y34 H35 =>
   S.b (up (lenS y26) H35) fun y36 H37 =>
   S.b (up (binB Tryd.prog .lss 3 y34 y36) H37) fun y38 H39 =>
   S.b (gd (wd y38 true) (some (y27, H39)) H39) fun y40 H41 =>
   S.b (gd (wd y38 true) (nilC y40 H41) H41) fun y42 H43 =>
   S.b (gd (wd y38 true) (up (fAddr 3 y42) H43) H43) fun y44 H45 =>
   S.b (gd (wd y38 true) (ldC y44 H45) H45) fun y46 H47 =>
   S.b (gd (wd y38 true) (up (unB .not y46) H47) H47) fun y48 H49 =>
   S.b (pickV y38 y48 (.bool false) H49) fun y50 H51 =>
   S.i y50
   (S.b (C 20 [y27, y28] H51) fun y52 H53 =>
    f9_L0 S C n m y24 y25 y26 y27 y28 H53)
   (S.b (nilC y27 H51) fun y54 H55 =>
    S.b (up (fAddr 3 y54) H55) fun y56 H57 =>
    S.b (ldC y56 H57) fun y58 H59 =>
    S.i y58
    (S.b (nilC y27 H59) fun y60 H61 =>
     S.b (up (fAddr 2 y60) H61) fun y62 H63 =>
     S.b (ldC y62 H63) fun y64 H65 =>
     S.b (up (lenS y26) H65) fun y66 H67 =>
     S.b (up (binB Tryd.prog .lss 3 y64 y66) H67) fun y68 H69 =>
     S.i y68
     (S.b (bld [(.slice none 0 0), (.string ⟨#[]⟩), (.slice none 0 0), (.slice none 0 0), (.slice none 0 0)] [] H69) fun y70 H71 =>
      S.b (nilC y27 H71) fun y72 H73 =>
      S.b (up (fAddr 2 y72) H73) fun y74 H75 =>
      S.c true (S.b (ldC y74 H75) fun y76 H77 =>
      S.b (up (iAddrS 3 y26 y76) H77) fun y78 H79 =>
      S.b (up (fAddr 1 y78) H79) fun y80 H81 =>
      S.c true (S.b (ldC y80 H81) fun y82 H83 =>
      S.b (stV 5 y25 y70 H83) fun _ H84 =>
      S.c (sameBlk H83 H84 (blkOf y80) && (sameBlk H83 H84 (blkOf y74) && true)) ((resM [(ldA 5 y25 H84).map (·.1), some y82, some (.int .i64 150)]).map fun l => (one l, H84)))))
     (S.b (bld [(.slice none 0 0), (.string ⟨#[]⟩), (.slice none 0 0), (.slice none 0 0), (.slice none 0 0)] [] H69) fun y85 H86 =>
      S.b (up (lenS y24) H86) fun y87 H88 =>
      S.b (stV 5 y25 y85 H88) fun _ H89 =>
      (resM [(ldA 5 y25 H89).map (·.1), some y87, some (.int .i64 150)]).map fun l => (one l, H89)))
    (S.b (nilC y28 H59) fun y90 H91 =>
     S.b (ldA 5 y90 H91) fun y92 H93 =>
     S.b (stV 5 y25 y92 H93) fun _ H94 =>
     (resM [(ldA 5 y25 H94).map (·.1), some (.int .i64 0), some (.int .i64 0)]).map fun l => (one l, H94)))

theorem f9_L0_eq (S : Seam (Value × Heap)) (C : CallF) (n : Nat) : ∀ (m : Nat) (env : Env) (H : Heap), aloopK (acodeK S Tryd.prog C n 70 (cAt f9_c [1, 1, 1, 1, 1, 0, 0, 0])) m env H (kAt S Tryd.prog C n 70 f9_c [1, 1, 1, 1, 1, 0, 0] (fin Tryd.prog Tryd.f9)) = f9_L0 S C n m (env 0) (env 2) (env 5) (env 8) (env 9) H := by
  intro m env H
  refine aloopK_eq (L := fun m env H => f9_L0 S C n m (env 0) (env 2) (env 5) (env 8) (env 9) H) (fun env H => rfl) (fun m env H => ?_) m env H
  kernel_rfl


noncomputable def f9 (S : Seam (Value × Heap)) (C : CallF) (n : Nat) (x0 : Value) (H : Heap) : Option (Value × Heap) :=
 S.b (newV [(.slice none 0 0), (.string ⟨#[]⟩), (.slice none 0 0), (.slice none 0 0), (.slice none 0 0)] H) fun y1 H2 =>
 S.b (C 19 [x0] H2) fun y3 H4 =>
 S.b (extr 0 y3 H4) fun y5 H6 =>
 S.b (extr 1 y3 H6) fun y7 H8 =>
 S.b (extr 2 y3 H8) fun y9 H10 =>
 S.b (up (binB Tryd.prog .neq 30 y9 (.int .i64 0)) H10) fun y11 H12 =>
 S.i y11
 (S.b (bld [(.slice none 0 0), (.string ⟨#[]⟩), (.slice none 0 0), (.slice none 0 0), (.slice none 0 0)] [] H12) fun y13 H14 =>
  S.b (stV 5 y1 y13 H14) fun _ H15 =>
  (resM [(ldA 5 y1 H15).map (·.1), some y7, some y9]).map fun l => (one l, H15))
 (S.b (bld [(.slice none 0 0), (.slice none 0 0), (.int .i64 0), (.bool false)] [(0, 1, x0), (1, 1, y5)] H12) fun y16 H17 =>
  S.b (newV (Value.cells y16).toList H17) fun y18 H19 =>
  S.b (bld [(.slice none 0 0), (.string ⟨#[]⟩), (.slice none 0 0), (.slice none 0 0), (.slice none 0 0)] [] H19) fun y20 H21 =>
  S.b (newV (Value.cells y20).toList H21) fun y22 H23 =>
  f9_L0 S C n n x0 y1 y5 y18 y22 H23)

noncomputable def f9G (S : Seam (Value × Heap)) (C : CallF) (n : Nat) (P0 : Env → Heap → Option (Value × Heap)) (x0 : Value) (H : Heap) : Option (Value × Heap) :=
 S.b (newV [(.slice none 0 0), (.string ⟨#[]⟩), (.slice none 0 0), (.slice none 0 0), (.slice none 0 0)] H) fun y95 H96 =>
 S.b (C 19 [x0] H96) fun y97 H98 =>
 S.b (extr 0 y97 H98) fun y99 H100 =>
 S.b (extr 1 y97 H100) fun y101 H102 =>
 S.b (extr 2 y97 H102) fun y103 H104 =>
 S.b (up (binB Tryd.prog .neq 30 y103 (.int .i64 0)) H104) fun y105 H106 =>
 S.i y105
 (S.b (bld [(.slice none 0 0), (.string ⟨#[]⟩), (.slice none 0 0), (.slice none 0 0), (.slice none 0 0)] [] H106) fun y107 H108 =>
  S.b (stV 5 y95 y107 H108) fun u109 H110 =>
  (resM [(ldA 5 y95 H110).map (·.1), some y101, some y103]).map fun l => (one l, H110))
 (S.b (bld [(.slice none 0 0), (.slice none 0 0), (.int .i64 0), (.bool false)] [(0, 1, x0), (1, 1, y99)] H106) fun y111 H112 =>
  S.b (newV (Value.cells y111).toList H112) fun y113 H114 =>
  S.b (bld [(.slice none 0 0), (.string ⟨#[]⟩), (.slice none 0 0), (.slice none 0 0), (.slice none 0 0)] [] H114) fun y115 H116 =>
  S.b (newV (Value.cells y115).toList H116) fun y117 H118 =>
  P0 (putE 70 (putE 70 (putE 70 (putE 70 (putE 70 (putE 70 (putE 70 (putE 70 (putE 70 (putE 70 (putE 70 (putE 70 (putE 70 (putE 70 (putE 70 (putE 70 (putE 70 (putE 70 (putE 70 (putE 70 (putE 70 (putE 70 (env0 [x0]) (some 2) y95) (some 3) (.int .i64 0)) (some 4) (.int .i64 0)) (some 11) x0) (some 12) y97) (some 10) y97) (some 13) y99) (some 14) y101) (some 15) y103) (some 5) y99) (some 6) y101) (some 7) y103) (some 16) y103) (some 17) y105) (some 21) x0) (some 22) y99) (some 23) y111) (some 24) y113) (some 8) y113) (some 25) y115) (some 26) y117) (some 9) y117) H118)

theorem f9_main (S : Seam (Value × Heap)) (C : CallF) (n : Nat) (x0 : Value) (H : Heap) : acodeK S Tryd.prog C n 70 f9_c (env0 [x0]) H (fin Tryd.prog Tryd.f9) = f9 S C n x0 H := by
  have h1 : acodeK S Tryd.prog C n 70 f9_c (env0 [x0]) H (fin Tryd.prog Tryd.f9) = f9G S C n (fun env H => aloopK (acodeK S Tryd.prog C n 70 (cAt f9_c [1, 1, 1, 1, 1, 0, 0, 0])) n env H (kAt S Tryd.prog C n 70 f9_c [1, 1, 1, 1, 1, 0, 0] (fin Tryd.prog Tryd.f9))) x0 H := by kernel_rfl
  have e0 : (fun env H => aloopK (acodeK S Tryd.prog C n 70 (cAt f9_c [1, 1, 1, 1, 1, 0, 0, 0])) n env H (kAt S Tryd.prog C n 70 f9_c [1, 1, 1, 1, 1, 0, 0] (fin Tryd.prog Tryd.f9))) = (fun env H => f9_L0 S C n n (env 0) (env 2) (env 5) (env 8) (env 9) H) := by funext env H; exact f9_L0_eq S C n n env H
  rw [e0] at h1
  exact h1.trans (by kernel_rfl)


theorem f9_eq {E : Ext} (hE : E 9 = none) (n : Nat) (x0 : Value) (H : Heap) : acall Tryd.prog true E (n + 1) 9 [x0] H = f9 real (acall Tryd.prog true E n) n x0 H :=
  (acall_eq (N := 70) Tryd.func9 (by kernel_rfl) (by kernel_rfl) hE (by kernel_rfl) (by kernel_rfl)).trans (f9_main real _ n x0 H)

/-! incunable/incunableref15.Same -/
noncomputable def f10_c : Code := (Tryd.f10.body).getD .skip

noncomputable def f10_L2 (S : Seam (Value × Heap)) (C : CallF) (n : Nat) : Nat → Value → Value → Value → Heap → Option (Value × Heap)
 | 0, _, _, _, _ => none
 | m + 1, y175, y176, y177, H178 =>
   S.b (up (fAddr 4 y175) H178) fun y179 H180 =>
   S.b (ldC y179 H180) fun y181 H182 =>
   S.b (up (lenS y181) H182) fun y183 H184 =>
   S.b (up (binB Tryd.prog .lss 3 y177 y183) H184) fun y185 H186 =>
   S.i y185
   (S.b (up (fAddr 4 y175) H186) fun y187 H188 =>
    S.c true (S.b (ldC y187 H188) fun y189 H190 =>
    S.b (up (iAddrS 2 y189 y177) H190) fun y191 H192 =>
    S.b (up (fAddr 0 y191) H192) fun y193 H194 =>
    S.c true (S.b (ldC y193 H194) fun y195 H196 =>
    S.b (up (fAddr 4 y176) H196) fun y197 H198 =>
    S.c true (S.b (ldC y197 H198) fun y199 H200 =>
    S.b (up (iAddrS 2 y199 y177) H200) fun y201 H202 =>
    S.b (up (fAddr 0 y201) H202) fun y203 H204 =>
    S.c true (S.b (ldC y203 H204) fun y205 H206 =>
    S.b (up (binB Tryd.prog .neq 9 y195 y205) H206) fun y207 H208 =>
    S.b (gd (wd y207 false) (up (fAddr 4 y175) H208) H208) fun y209 H210 =>
    S.c (!(wd y207 false) || true) (S.b (gd (wd y207 false) (ldC y209 H210) H210) fun y211 H212 =>
    S.b (gd (wd y207 false) (some (y177, H212)) H212) fun y213 H214 =>
    S.b (gd (wd y207 false) (up (iAddrS 2 y211 y213) H214) H214) fun y215 H216 =>
    S.b (gd (wd y207 false) (up (fAddr 1 y215) H216) H216) fun y217 H218 =>
    S.c (!(wd y207 false) || true) (S.b (gd (wd y207 false) (ldC y217 H218) H218) fun y219 H220 =>
    S.b (gd (wd y207 false) (up (fAddr 4 y176) H220) H220) fun y221 H222 =>
    S.c (!(wd y207 false) || true) (S.b (gd (wd y207 false) (ldC y221 H222) H222) fun y223 H224 =>
    S.b (gd (wd y207 false) (some (y177, H224)) H224) fun y225 H226 =>
    S.b (gd (wd y207 false) (up (iAddrS 2 y223 y225) H226) H226) fun y227 H228 =>
    S.b (gd (wd y207 false) (up (fAddr 1 y227) H228) H228) fun y229 H230 =>
    S.c (!(wd y207 false) || true) (S.b (gd (wd y207 false) (ldC y229 H230) H230) fun y231 H232 =>
    S.b (gd (wd y207 false) (C 22 [y219, y231] H232) H232) fun y233 H234 =>
    S.c (!(wd y207 false) || true) (S.b (gd (wd y207 false) (up (unB .not y233) H234) H234) fun y235 H236 =>
     S.b (pickV y207 (.bool true) y235 H236) fun y237 H238 =>
     S.i y237
     (some ((.bool false), H238))
     (S.b (up (binB Tryd.prog .add 3 y177 (.int .i64 1)) H238) fun y239 H240 =>
      f10_L2 S C n m y175 y176 y239 H240)))))))))))
   (some ((.bool true), H186))

theorem f10_L2_eq (S : Seam (Value × Heap)) (C : CallF) (n : Nat) : ∀ (m : Nat) (env : Env) (H : Heap), aloopK (acodeK S Tryd.prog C n 138 (cAt f10_c [1, 1, 1, 1, 0, 1, 0, 0])) m env H (kAt S Tryd.prog C n 138 f10_c [1, 1, 1, 1, 0, 1, 0] (fin Tryd.prog Tryd.f10)) = f10_L2 S C n m (env 2) (env 3) (env 7) H := by
  intro m env H
  refine aloopK_eq (L := fun m env H => f10_L2 S C n m (env 2) (env 3) (env 7) H) (fun env H => rfl) (fun m env H => ?_) m env H
  kernel_rfl


noncomputable def f10_L1 (S : Seam (Value × Heap)) (C : CallF) (n : Nat) : Nat → Value → Value → Value → Heap → Option (Value × Heap)
 | 0, _, _, _, _ => none
 | m + 1, y109, y110, y111, H112 =>
   S.b (up (fAddr 3 y109) H112) fun y113 H114 =>
   S.b (ldC y113 H114) fun y115 H116 =>
   S.b (up (lenS y115) H116) fun y117 H118 =>
   S.b (up (binB Tryd.prog .lss 3 y111 y117) H118) fun y119 H120 =>
   S.i y119
   (S.b (up (fAddr 3 y109) H120) fun y121 H122 =>
    S.c true (S.b (ldC y121 H122) fun y123 H124 =>
    S.b (up (iAddrS 2 y123 y111) H124) fun y125 H126 =>
    S.b (up (fAddr 0 y125) H126) fun y127 H128 =>
    S.c true (S.b (ldC y127 H128) fun y129 H130 =>
    S.b (up (fAddr 3 y110) H130) fun y131 H132 =>
    S.c true (S.b (ldC y131 H132) fun y133 H134 =>
    S.b (up (iAddrS 2 y133 y111) H134) fun y135 H136 =>
    S.b (up (fAddr 0 y135) H136) fun y137 H138 =>
    S.c true (S.b (ldC y137 H138) fun y139 H140 =>
    S.b (up (binB Tryd.prog .neq 3 y129 y139) H140) fun y141 H142 =>
    S.b (gd (wd y141 false) (up (fAddr 3 y109) H142) H142) fun y143 H144 =>
    S.c (!(wd y141 false) || true) (S.b (gd (wd y141 false) (ldC y143 H144) H144) fun y145 H146 =>
    S.b (gd (wd y141 false) (some (y111, H146)) H146) fun y147 H148 =>
    S.b (gd (wd y141 false) (up (iAddrS 2 y145 y147) H148) H148) fun y149 H150 =>
    S.b (gd (wd y141 false) (up (fAddr 1 y149) H150) H150) fun y151 H152 =>
    S.c (!(wd y141 false) || true) (S.b (gd (wd y141 false) (ldC y151 H152) H152) fun y153 H154 =>
    S.b (gd (wd y141 false) (up (fAddr 3 y110) H154) H154) fun y155 H156 =>
    S.c (!(wd y141 false) || true) (S.b (gd (wd y141 false) (ldC y155 H156) H156) fun y157 H158 =>
    S.b (gd (wd y141 false) (some (y111, H158)) H158) fun y159 H160 =>
    S.b (gd (wd y141 false) (up (iAddrS 2 y157 y159) H160) H160) fun y161 H162 =>
    S.b (gd (wd y141 false) (up (fAddr 1 y161) H162) H162) fun y163 H164 =>
    S.c (!(wd y141 false) || true) (S.b (gd (wd y141 false) (ldC y163 H164) H164) fun y165 H166 =>
    S.b (gd (wd y141 false) (C 21 [y153, y165] H166) H166) fun y167 H168 =>
    S.c (!(wd y141 false) || true) (S.b (gd (wd y141 false) (up (unB .not y167) H168) H168) fun y169 H170 =>
     S.b (pickV y141 (.bool true) y169 H170) fun y171 H172 =>
     S.i y171
     (some ((.bool false), H172))
     (S.b (up (binB Tryd.prog .add 3 y111 (.int .i64 1)) H172) fun y173 H174 =>
      f10_L1 S C n m y109 y110 y173 H174)))))))))))
   (f10_L2 S C n n y109 y110 (.int .i64 0) H120)

noncomputable def f10_L1G (S : Seam (Value × Heap)) (C : CallF) (n : Nat) (R1 : Value→Value→Value→Heap→Option (Value × Heap)) (P2 : Env → Heap → Option (Value × Heap)) (env : Env) (H : Heap) : Option (Value × Heap) :=
 S.b (up (fAddr 3 (env 2)) H) fun y241 H242 =>
 S.b (ldC y241 H242) fun y243 H244 =>
 S.b (up (lenS y243) H244) fun y245 H246 =>
 S.b (up (binB Tryd.prog .lss 3 (env 6) y245) H246) fun y247 H248 =>
 S.i y247
 (S.b (up (fAddr 3 (env 2)) H248) fun y249 H250 =>
  S.c true (S.b (ldC y249 H250) fun y251 H252 =>
  S.b (up (iAddrS 2 y251 (env 6)) H252) fun y253 H254 =>
  S.b (up (fAddr 0 y253) H254) fun y255 H256 =>
  S.c true (S.b (ldC y255 H256) fun y257 H258 =>
  S.b (up (fAddr 3 (env 3)) H258) fun y259 H260 =>
  S.c true (S.b (ldC y259 H260) fun y261 H262 =>
  S.b (up (iAddrS 2 y261 (env 6)) H262) fun y263 H264 =>
  S.b (up (fAddr 0 y263) H264) fun y265 H266 =>
  S.c true (S.b (ldC y265 H266) fun y267 H268 =>
  S.b (up (binB Tryd.prog .neq 3 y257 y267) H268) fun y269 H270 =>
  S.b (gd (wd y269 false) (up (fAddr 3 (env 2)) H270) H270) fun y271 H272 =>
  S.c (!(wd y269 false) || true) (S.b (gd (wd y269 false) (ldC y271 H272) H272) fun y273 H274 =>
  S.b (gd (wd y269 false) (some ((env 6), H274)) H274) fun y275 H276 =>
  S.b (gd (wd y269 false) (up (iAddrS 2 y273 y275) H276) H276) fun y277 H278 =>
  S.b (gd (wd y269 false) (up (fAddr 1 y277) H278) H278) fun y279 H280 =>
  S.c (!(wd y269 false) || true) (S.b (gd (wd y269 false) (ldC y279 H280) H280) fun y281 H282 =>
  S.b (gd (wd y269 false) (up (fAddr 3 (env 3)) H282) H282) fun y283 H284 =>
  S.c (!(wd y269 false) || true) (S.b (gd (wd y269 false) (ldC y283 H284) H284) fun y285 H286 =>
  S.b (gd (wd y269 false) (some ((env 6), H286)) H286) fun y287 H288 =>
  S.b (gd (wd y269 false) (up (iAddrS 2 y285 y287) H288) H288) fun y289 H290 =>
  S.b (gd (wd y269 false) (up (fAddr 1 y289) H290) H290) fun y291 H292 =>
  S.c (!(wd y269 false) || true) (S.b (gd (wd y269 false) (ldC y291 H292) H292) fun y293 H294 =>
  S.b (gd (wd y269 false) (C 21 [y281, y293] H294) H294) fun y295 H296 =>
  S.c (!(wd y269 false) || true) (S.b (gd (wd y269 false) (up (unB .not y295) H296) H296) fun y297 H298 =>
   S.b (pickV y269 (.bool true) y297 H298) fun y299 H300 =>
   S.i y299
   (some ((.bool false), H300))
   (S.b (up (binB Tryd.prog .add 3 (env 6) (.int .i64 1)) H300) fun y301 H302 =>
    R1 (env 2) (env 3) y301 H302)))))))))))
 (P2 (putE 138 (putE 138 (putE 138 (putE 138 (putE 138 (putE 138 env (some 66) (env 6)) (some 67) y241) (some 68) y243) (some 69) y245) (some 70) y247) (some 7) (.int .i64 0)) H248)

theorem f10_L1_eq (S : Seam (Value × Heap)) (C : CallF) (n : Nat) : ∀ (m : Nat) (env : Env) (H : Heap), aloopK (acodeK S Tryd.prog C n 138 (cAt f10_c [1, 1, 1, 0, 1, 0, 0])) m env H (kAt S Tryd.prog C n 138 f10_c [1, 1, 1, 0, 1, 0] (fin Tryd.prog Tryd.f10)) = f10_L1 S C n m (env 2) (env 3) (env 6) H := by
  intro m env H
  refine aloopK_eq (L := fun m env H => f10_L1 S C n m (env 2) (env 3) (env 6) H) (fun env H => rfl) (fun m env H => ?_) m env H
  have h1 : acodeK S Tryd.prog C n 138 (cAt f10_c [1, 1, 1, 0, 1, 0, 0]) env H (onNormal (fun env' H' => f10_L1 S C n m (env' 2) (env' 3) (env' 6) H') (kAt S Tryd.prog C n 138 f10_c [1, 1, 1, 0, 1, 0] (fin Tryd.prog Tryd.f10))) = f10_L1G S C n (f10_L1 S C n m) (fun env H => aloopK (acodeK S Tryd.prog C n 138 (cAt f10_c [1, 1, 1, 1, 0, 1, 0, 0])) n env H (kAt S Tryd.prog C n 138 f10_c [1, 1, 1, 1, 0, 1, 0] (fin Tryd.prog Tryd.f10))) env H := by kernel_rfl
  have e0 : (fun env H => aloopK (acodeK S Tryd.prog C n 138 (cAt f10_c [1, 1, 1, 1, 0, 1, 0, 0])) n env H (kAt S Tryd.prog C n 138 f10_c [1, 1, 1, 1, 0, 1, 0] (fin Tryd.prog Tryd.f10))) = (fun env H => f10_L2 S C n n (env 2) (env 3) (env 7) H) := by funext env H; exact f10_L2_eq S C n n env H
  rw [e0] at h1
  exact h1.trans (by kernel_rfl)


noncomputable def f10_L0 (S : Seam (Value × Heap)) (C : CallF) (n : Nat) : Nat → Value → Value → Value → Heap → Option (Value × Heap)
 | 0, _, _, _, _ => none
 | m + 1, y77, y78, y79, H80 =>
   S.b (up (fAddr 2 y77) H80) fun y81 H82 =>
   S.b (ldC y81 H82) fun y83 H84 =>
   S.b (up (lenS y83) H84) fun y85 H86 =>
   S.b (up (binB Tryd.prog .lss 3 y79 y85) H86) fun y87 H88 =>
   S.i y87
   (S.b (up (fAddr 2 y77) H88) fun y89 H90 =>
    S.c true (S.b (ldC y89 H90) fun y91 H92 =>
    S.b (up (iAddrS 3 y91 y79) H92) fun y93 H94 =>
    S.c true (S.b (ldA 3 y93 H94) fun y95 H96 =>
    S.b (up (fAddr 2 y78) H96) fun y97 H98 =>
    S.c true (S.b (ldC y97 H98) fun y99 H100 =>
    S.b (up (iAddrS 3 y99 y79) H100) fun y101 H102 =>
    S.c true (S.b (ldA 3 y101 H102) fun y103 H104 =>
    S.b (up (binB Tryd.prog .neq 41 y95 y103) H104) fun y105 H106 =>
    S.i y105
    (some ((.bool false), H106))
    (S.b (up (binB Tryd.prog .add 3 y79 (.int .i64 1)) H106) fun y107 H108 =>
     f10_L0 S C n m y77 y78 y107 H108))))))
   (f10_L1 S C n n y77 y78 (.int .i64 0) H88)

noncomputable def f10_L0G (S : Seam (Value × Heap)) (C : CallF) (n : Nat) (R0 : Value→Value→Value→Heap→Option (Value × Heap)) (P1 : Env → Heap → Option (Value × Heap)) (env : Env) (H : Heap) : Option (Value × Heap) :=
 S.b (up (fAddr 2 (env 2)) H) fun y303 H304 =>
 S.b (ldC y303 H304) fun y305 H306 =>
 S.b (up (lenS y305) H306) fun y307 H308 =>
 S.b (up (binB Tryd.prog .lss 3 (env 5) y307) H308) fun y309 H310 =>
 S.i y309
 (S.b (up (fAddr 2 (env 2)) H310) fun y311 H312 =>
  S.c true (S.b (ldC y311 H312) fun y313 H314 =>
  S.b (up (iAddrS 3 y313 (env 5)) H314) fun y315 H316 =>
  S.c true (S.b (ldA 3 y315 H316) fun y317 H318 =>
  S.b (up (fAddr 2 (env 3)) H318) fun y319 H320 =>
  S.c true (S.b (ldC y319 H320) fun y321 H322 =>
  S.b (up (iAddrS 3 y321 (env 5)) H322) fun y323 H324 =>
  S.c true (S.b (ldA 3 y323 H324) fun y325 H326 =>
  S.b (up (binB Tryd.prog .neq 41 y317 y325) H326) fun y327 H328 =>
  S.i y327
  (some ((.bool false), H328))
  (S.b (up (binB Tryd.prog .add 3 (env 5) (.int .i64 1)) H328) fun y329 H330 =>
   R0 (env 2) (env 3) y329 H330))))))
 (P1 (putE 138 (putE 138 (putE 138 (putE 138 (putE 138 (putE 138 env (some 48) (env 5)) (some 49) y303) (some 50) y305) (some 51) y307) (some 52) y309) (some 6) (.int .i64 0)) H310)

theorem f10_L0_eq (S : Seam (Value × Heap)) (C : CallF) (n : Nat) : ∀ (m : Nat) (env : Env) (H : Heap), aloopK (acodeK S Tryd.prog C n 138 (cAt f10_c [1, 1, 0, 1, 0, 0])) m env H (kAt S Tryd.prog C n 138 f10_c [1, 1, 0, 1, 0] (fin Tryd.prog Tryd.f10)) = f10_L0 S C n m (env 2) (env 3) (env 5) H := by
  intro m env H
  refine aloopK_eq (L := fun m env H => f10_L0 S C n m (env 2) (env 3) (env 5) H) (fun env H => rfl) (fun m env H => ?_) m env H
  have h1 : acodeK S Tryd.prog C n 138 (cAt f10_c [1, 1, 0, 1, 0, 0]) env H (onNormal (fun env' H' => f10_L0 S C n m (env' 2) (env' 3) (env' 5) H') (kAt S Tryd.prog C n 138 f10_c [1, 1, 0, 1, 0] (fin Tryd.prog Tryd.f10))) = f10_L0G S C n (f10_L0 S C n m) (fun env H => aloopK (acodeK S Tryd.prog C n 138 (cAt f10_c [1, 1, 1, 0, 1, 0, 0])) n env H (kAt S Tryd.prog C n 138 f10_c [1, 1, 1, 0, 1, 0] (fin Tryd.prog Tryd.f10))) env H := by kernel_rfl
  have e0 : (fun env H => aloopK (acodeK S Tryd.prog C n 138 (cAt f10_c [1, 1, 1, 0, 1, 0, 0])) n env H (kAt S Tryd.prog C n 138 f10_c [1, 1, 1, 0, 1, 0] (fin Tryd.prog Tryd.f10))) = (fun env H => f10_L1 S C n n (env 2) (env 3) (env 6) H) := by funext env H; exact f10_L1_eq S C n n env H
  rw [e0] at h1
  exact h1.trans (by kernel_rfl)


noncomputable def f10 (S : Seam (Value × Heap)) (C : CallF) (n : Nat) (x0 : Value) (x1 : Value) (H : Heap) : Option (Value × Heap) :=
 S.b (newV (Value.cells x0).toList H) fun y1 H2 =>
 S.b (newV (Value.cells x1).toList H2) fun y3 H4 =>
 S.b (up (fAddr 0 y1) H4) fun y5 H6 =>
 S.b (ldC y5 H6) fun y7 H8 =>
 S.b (up (fAddr 0 y3) H8) fun y9 H10 =>
 S.b (ldC y9 H10) fun y11 H12 =>
 S.b (C 21 [y7, y11] H12) fun y13 H14 =>
 S.b (up (unB .not y13) H14) fun y15 H16 =>
 S.b (gd (wd y15 false) (up (fAddr 1 y1) H16) H16) fun y17 H18 =>
 S.b (gd (wd y15 false) (ldC y17 H18) H18) fun y19 H20 =>
 S.b (gd (wd y15 false) (up (fAddr 1 y3) H20) H20) fun y21 H22 =>
 S.b (gd (wd y15 false) (ldC y21 H22) H22) fun y23 H24 =>
 S.b (gd (wd y15 false) (up (binB Tryd.prog .neq 9 y19 y23) H24) H24) fun y25 H26 =>
 S.b (pickV y15 (.bool true) y25 H26) fun y27 H28 =>
 S.b (gd (wd y27 false) (up (fAddr 2 y1) H28) H28) fun y29 H30 =>
 S.b (gd (wd y27 false) (ldC y29 H30) H30) fun y31 H32 =>
 S.b (gd (wd y27 false) (up (lenS y31) H32) H32) fun y33 H34 =>
 S.b (gd (wd y27 false) (up (fAddr 2 y3) H34) H34) fun y35 H36 =>
 S.b (gd (wd y27 false) (ldC y35 H36) H36) fun y37 H38 =>
 S.b (gd (wd y27 false) (up (lenS y37) H38) H38) fun y39 H40 =>
 S.b (gd (wd y27 false) (up (binB Tryd.prog .neq 3 y33 y39) H40) H40) fun y41 H42 =>
 S.b (pickV y27 (.bool true) y41 H42) fun y43 H44 =>
 S.b (gd (wd y43 false) (up (fAddr 3 y1) H44) H44) fun y45 H46 =>
 S.b (gd (wd y43 false) (ldC y45 H46) H46) fun y47 H48 =>
 S.b (gd (wd y43 false) (up (lenS y47) H48) H48) fun y49 H50 =>
 S.b (gd (wd y43 false) (up (fAddr 3 y3) H50) H50) fun y51 H52 =>
 S.b (gd (wd y43 false) (ldC y51 H52) H52) fun y53 H54 =>
 S.b (gd (wd y43 false) (up (lenS y53) H54) H54) fun y55 H56 =>
 S.b (gd (wd y43 false) (up (binB Tryd.prog .neq 3 y49 y55) H56) H56) fun y57 H58 =>
 S.b (pickV y43 (.bool true) y57 H58) fun y59 H60 =>
 S.b (gd (wd y59 false) (up (fAddr 4 y1) H60) H60) fun y61 H62 =>
 S.b (gd (wd y59 false) (ldC y61 H62) H62) fun y63 H64 =>
 S.b (gd (wd y59 false) (up (lenS y63) H64) H64) fun y65 H66 =>
 S.b (gd (wd y59 false) (up (fAddr 4 y3) H66) H66) fun y67 H68 =>
 S.b (gd (wd y59 false) (ldC y67 H68) H68) fun y69 H70 =>
 S.b (gd (wd y59 false) (up (lenS y69) H70) H70) fun y71 H72 =>
 S.b (gd (wd y59 false) (up (binB Tryd.prog .neq 3 y65 y71) H72) H72) fun y73 H74 =>
 S.b (pickV y59 (.bool true) y73 H74) fun y75 H76 =>
 S.i y75
 (some ((.bool false), H76))
 (f10_L0 S C n n y1 y3 (.int .i64 0) H76)

noncomputable def f10G (S : Seam (Value × Heap)) (C : CallF) (n : Nat) (P0 : Env → Heap → Option (Value × Heap)) (x0 : Value) (x1 : Value) (H : Heap) : Option (Value × Heap) :=
 S.b (newV (Value.cells x0).toList H) fun y331 H332 =>
 S.b (newV (Value.cells x1).toList H332) fun y333 H334 =>
 S.b (up (fAddr 0 y331) H334) fun y335 H336 =>
 S.b (ldC y335 H336) fun y337 H338 =>
 S.b (up (fAddr 0 y333) H338) fun y339 H340 =>
 S.b (ldC y339 H340) fun y341 H342 =>
 S.b (C 21 [y337, y341] H342) fun y343 H344 =>
 S.b (up (unB .not y343) H344) fun y345 H346 =>
 S.b (gd (wd y345 false) (up (fAddr 1 y331) H346) H346) fun y347 H348 =>
 S.b (gd (wd y345 false) (ldC y347 H348) H348) fun y349 H350 =>
 S.b (gd (wd y345 false) (up (fAddr 1 y333) H350) H350) fun y351 H352 =>
 S.b (gd (wd y345 false) (ldC y351 H352) H352) fun y353 H354 =>
 S.b (gd (wd y345 false) (up (binB Tryd.prog .neq 9 y349 y353) H354) H354) fun y355 H356 =>
 S.b (pickV y345 (.bool true) y355 H356) fun y357 H358 =>
 S.b (gd (wd y357 false) (up (fAddr 2 y331) H358) H358) fun y359 H360 =>
 S.b (gd (wd y357 false) (ldC y359 H360) H360) fun y361 H362 =>
 S.b (gd (wd y357 false) (up (lenS y361) H362) H362) fun y363 H364 =>
 S.b (gd (wd y357 false) (up (fAddr 2 y333) H364) H364) fun y365 H366 =>
 S.b (gd (wd y357 false) (ldC y365 H366) H366) fun y367 H368 =>
 S.b (gd (wd y357 false) (up (lenS y367) H368) H368) fun y369 H370 =>
 S.b (gd (wd y357 false) (up (binB Tryd.prog .neq 3 y363 y369) H370) H370) fun y371 H372 =>
 S.b (pickV y357 (.bool true) y371 H372) fun y373 H374 =>
 S.b (gd (wd y373 false) (up (fAddr 3 y331) H374) H374) fun y375 H376 =>
 S.b (gd (wd y373 false) (ldC y375 H376) H376) fun y377 H378 =>
 S.b (gd (wd y373 false) (up (lenS y377) H378) H378) fun y379 H380 =>
 S.b (gd (wd y373 false) (up (fAddr 3 y333) H380) H380) fun y381 H382 =>
 S.b (gd (wd y373 false) (ldC y381 H382) H382) fun y383 H384 =>
 S.b (gd (wd y373 false) (up (lenS y383) H384) H384) fun y385 H386 =>
 S.b (gd (wd y373 false) (up (binB Tryd.prog .neq 3 y379 y385) H386) H386) fun y387 H388 =>
 S.b (pickV y373 (.bool true) y387 H388) fun y389 H390 =>
 S.b (gd (wd y389 false) (up (fAddr 4 y331) H390) H390) fun y391 H392 =>
 S.b (gd (wd y389 false) (ldC y391 H392) H392) fun y393 H394 =>
 S.b (gd (wd y389 false) (up (lenS y393) H394) H394) fun y395 H396 =>
 S.b (gd (wd y389 false) (up (fAddr 4 y333) H396) H396) fun y397 H398 =>
 S.b (gd (wd y389 false) (ldC y397 H398) H398) fun y399 H400 =>
 S.b (gd (wd y389 false) (up (lenS y399) H400) H400) fun y401 H402 =>
 S.b (gd (wd y389 false) (up (binB Tryd.prog .neq 3 y395 y401) H402) H402) fun y403 H404 =>
 S.b (pickV y389 (.bool true) y403 H404) fun y405 H406 =>
 S.i y405
 (some ((.bool false), H406))
 (P0 (putE 138 (putE 138 (putE 138 (putE 138 (putE 138 (putE 138 (putE 138 (putE 138 (putE 138 (putE 138 (putE 138 (putE 138 (putE 138 (putE 138 (putE 138 (putE 138 (putE 138 (putE 138 (putE 138 (putE 138 (putE 138 (putE 138 (putE 138 (putE 138 (putE 138 (putE 138 (putE 138 (putE 138 (putE 138 (putE 138 (putE 138 (putE 138 (putE 138 (putE 138 (putE 138 (putE 138 (putE 138 (putE 138 (putE 138 (putE 138 (putE 138 (putE 138 (putE 138 (putE 138 (env0 [x0, x1]) (some 2) y331) (some 3) y333) (some 4) (.bool false)) (some 8) y335) (some 9) y337) (some 10) y339) (some 11) y341) (some 12) y343) (some 13) y345) (some 14) y345) (some 15) y347) (some 16) y349) (some 17) y351) (some 18) y353) (some 19) y355) (some 20) y357) (some 21) y357) (some 22) y359) (some 23) y361) (some 24) y363) (some 25) y365) (some 26) y367) (some 27) y369) (some 28) y371) (some 29) y373) (some 30) y373) (some 31) y375) (some 32) y377) (some 33) y379) (some 34) y381) (some 35) y383) (some 36) y385) (some 37) y387) (some 38) y389) (some 39) y389) (some 40) y391) (some 41) y393) (some 42) y395) (some 43) y397) (some 44) y399) (some 45) y401) (some 46) y403) (some 47) y405) (some 5) (.int .i64 0)) H406)

theorem f10_main (S : Seam (Value × Heap)) (C : CallF) (n : Nat) (x0 : Value) (x1 : Value) (H : Heap) : acodeK S Tryd.prog C n 138 f10_c (env0 [x0, x1]) H (fin Tryd.prog Tryd.f10) = f10 S C n x0 x1 H := by
  have h1 : acodeK S Tryd.prog C n 138 f10_c (env0 [x0, x1]) H (fin Tryd.prog Tryd.f10) = f10G S C n (fun env H => aloopK (acodeK S Tryd.prog C n 138 (cAt f10_c [1, 1, 0, 1, 0, 0])) n env H (kAt S Tryd.prog C n 138 f10_c [1, 1, 0, 1, 0] (fin Tryd.prog Tryd.f10))) x0 x1 H := by kernel_rfl
  have e0 : (fun env H => aloopK (acodeK S Tryd.prog C n 138 (cAt f10_c [1, 1, 0, 1, 0, 0])) n env H (kAt S Tryd.prog C n 138 f10_c [1, 1, 0, 1, 0] (fin Tryd.prog Tryd.f10))) = (fun env H => f10_L0 S C n n (env 2) (env 3) (env 5) H) := by funext env H; exact f10_L0_eq S C n n env H
  rw [e0] at h1
  exact h1.trans (by kernel_rfl)


theorem f10_eq {E : Ext} (hE : E 10 = none) (n : Nat) (x0 : Value) (x1 : Value) (H : Heap) : acall Tryd.prog true E (n + 1) 10 [x0, x1] H = f10 real (acall Tryd.prog true E n) n x0 x1 H :=
  (acall_eq (N := 138) Tryd.func10 (by kernel_rfl) (by kernel_rfl) hE (by kernel_rfl) (by kernel_rfl)).trans (f10_main real _ n x0 x1 H)

/-! incunable/incunableref00.EqBytes -/
noncomputable def f11_c : Code := (Tryd.f11.body).getD .skip

noncomputable def f11_L0 (S : Seam (Value × Heap)) (C : CallF) (n : Nat) : Nat → Value → Value → Value → Heap → Option (Value × Heap)
 | 0, _, _, _, _ => none
 | m + 1, y7, y8, y9, H10 =>
   S.b (up (lenS y7) H10) fun y11 H12 =>
   S.b (up (binB Tryd.prog .lss 3 y9 y11) H12) fun y13 H14 =>
   S.i y13
   (S.b (up (iAddrS 1 y7 y9) H14) fun y15 H16 =>
    S.c true (S.b (ldC y15 H16) fun y17 H18 =>
    S.b (up (iAddrS 1 y8 y9) H18) fun y19 H20 =>
    S.c true (S.b (ldC y19 H20) fun y21 H22 =>
    S.b (up (binB Tryd.prog .neq 5 y17 y21) H22) fun y23 H24 =>
    S.i y23
    (some ((.bool false), H24))
    (S.b (up (binB Tryd.prog .add 3 y9 (.int .i64 1)) H24) fun y25 H26 =>
     f11_L0 S C n m y7 y8 y25 H26))))
   (some ((.bool true), H14))

theorem f11_L0_eq (S : Seam (Value × Heap)) (C : CallF) (n : Nat) : ∀ (m : Nat) (env : Env) (H : Heap), aloopK (acodeK S Tryd.prog C n 26 (cAt f11_c [1, 1, 0, 1, 0, 0])) m env H (kAt S Tryd.prog C n 26 f11_c [1, 1, 0, 1, 0] (fin Tryd.prog Tryd.f11)) = f11_L0 S C n m (env 0) (env 1) (env 5) H := by
  intro m env H
  refine aloopK_eq (L := fun m env H => f11_L0 S C n m (env 0) (env 1) (env 5) H) (fun env H => rfl) (fun m env H => ?_) m env H
  kernel_rfl


noncomputable def f11 (S : Seam (Value × Heap)) (C : CallF) (n : Nat) (x0 : Value) (x1 : Value) (H : Heap) : Option (Value × Heap) :=
 S.b (up (lenS x0) H) fun y1 H2 =>
 S.b (up (lenS x1) H2) fun y3 H4 =>
 S.b (up (binB Tryd.prog .neq 3 y1 y3) H4) fun y5 H6 =>
 S.i y5
 (some ((.bool false), H6))
 (f11_L0 S C n n x0 x1 (.int .i64 0) H6)

noncomputable def f11G (S : Seam (Value × Heap)) (C : CallF) (n : Nat) (P0 : Env → Heap → Option (Value × Heap)) (x0 : Value) (x1 : Value) (H : Heap) : Option (Value × Heap) :=
 S.b (up (lenS x0) H) fun y27 H28 =>
 S.b (up (lenS x1) H28) fun y29 H30 =>
 S.b (up (binB Tryd.prog .neq 3 y27 y29) H30) fun y31 H32 =>
 S.i y31
 (some ((.bool false), H32))
 (P0 (putE 26 (putE 26 (putE 26 (putE 26 (putE 26 (putE 26 (putE 26 (env0 [x0, x1]) (some 4) (.bool false)) (some 6) x0) (some 7) y27) (some 8) x1) (some 9) y29) (some 10) y31) (some 5) (.int .i64 0)) H32)

theorem f11_main (S : Seam (Value × Heap)) (C : CallF) (n : Nat) (x0 : Value) (x1 : Value) (H : Heap) : acodeK S Tryd.prog C n 26 f11_c (env0 [x0, x1]) H (fin Tryd.prog Tryd.f11) = f11 S C n x0 x1 H := by
  have h1 : acodeK S Tryd.prog C n 26 f11_c (env0 [x0, x1]) H (fin Tryd.prog Tryd.f11) = f11G S C n (fun env H => aloopK (acodeK S Tryd.prog C n 26 (cAt f11_c [1, 1, 0, 1, 0, 0])) n env H (kAt S Tryd.prog C n 26 f11_c [1, 1, 0, 1, 0] (fin Tryd.prog Tryd.f11))) x0 x1 H := by kernel_rfl
  have e0 : (fun env H => aloopK (acodeK S Tryd.prog C n 26 (cAt f11_c [1, 1, 0, 1, 0, 0])) n env H (kAt S Tryd.prog C n 26 f11_c [1, 1, 0, 1, 0] (fin Tryd.prog Tryd.f11))) = (fun env H => f11_L0 S C n n (env 0) (env 1) (env 5) H) := by funext env H; exact f11_L0_eq S C n n env H
  rw [e0] at h1
  exact h1.trans (by kernel_rfl)


theorem f11_eq {E : Ext} (hE : E 11 = none) (n : Nat) (x0 : Value) (x1 : Value) (H : Heap) : acall Tryd.prog true E (n + 1) 11 [x0, x1] H = f11 real (acall Tryd.prog true E n) n x0 x1 H :=
  (acall_eq (N := 26) Tryd.func11 (by kernel_rfl) (by kernel_rfl) hE (by kernel_rfl) (by kernel_rfl)).trans (f11_main real _ n x0 x1 H)

/-! incunable/incunablelaw15.awake -/
noncomputable def f12_c : Code := (Tryd.f12.body).getD .skip

noncomputable def f12 (S : Seam (Value × Heap)) (C : CallF) (n : Nat) (H : Heap) : Option (Value × Heap) :=
 S.b (bldS 1 22 [(.int .u8 0)] [(0, 1, (.int .u8 105)), (1, 1, (.int .u8 109)), (2, 1, (.int .u8 112)), (3, 1, (.int .u8 111)), (4, 1, (.int .u8 114)), (5, 1, (.int .u8 116)), (6, 1, (.int .u8 32)), (7, 1, (.int .u8 34)), (8, 1, (.int .u8 97)), (9, 1, (.int .u8 46)), (10, 1, (.int .u8 103)), (11, 1, (.int .u8 34)), (12, 1, (.int .u8 59)), (13, 1, (.int .u8 32)), (14, 1, (.int .u8 115)), (15, 1, (.int .u8 116)), (16, 1, (.int .u8 97)), (17, 1, (.int .u8 114)), (18, 1, (.int .u8 116)), (19, 1, (.int .u8 32)), (20, 1, (.int .u8 101)), (21, 1, (.int .u8 59))] H) fun y1 H2 =>
 S.b (markV y1 H2) fun y3 H4 =>
 S.b (C 8 [y3] H4) fun y5 H6 =>
 S.b (extr 0 y5 H6) fun y7 H8 =>
 S.b (extr 1 y5 H8) fun y9 H10 =>
 S.b (extr 2 y5 H10) fun y11 H12 =>
 S.b (newV [(.slice none 0 0), (.string ⟨#[]⟩), (.slice none 0 0), (.slice none 0 0), (.slice none 0 0)] H12) fun y13 H14 =>
 S.b (stV 5 y13 y7 H14) fun _ H15 =>
 S.b (bldS 1 35 [(.int .u8 0)] [(0, 1, (.int .u8 114)), (1, 1, (.int .u8 117)), (2, 1, (.int .u8 108)), (3, 1, (.int .u8 101)), (4, 1, (.int .u8 32)), (5, 1, (.int .u8 101)), (6, 1, (.int .u8 32)), (7, 1, (.int .u8 58)), (8, 1, (.int .u8 32)), (9, 1, (.int .u8 101)), (10, 1, (.int .u8 32)), (11, 1, (.int .u8 112)), (12, 1, (.int .u8 108)), (13, 1, (.int .u8 117)), (14, 1, (.int .u8 115)), (15, 1, (.int .u8 32)), (16, 1, (.int .u8 101)), (17, 1, (.int .u8 32)), (18, 1, (.int .u8 112)), (19, 1, (.int .u8 114)), (20, 1, (.int .u8 101)), (21, 1, (.int .u8 99)), (22, 1, (.int .u8 32)), (23, 1, (.int .u8 108)), (24, 1, (.int .u8 111)), (25, 1, (.int .u8 119)), (26, 1, (.int .u8 32)), (27, 1, (.int .u8 124)), (28, 1, (.int .u8 32)), (29, 1, (.int .u8 110)), (30, 1, (.int .u8 117)), (31, 1, (.int .u8 109)), (32, 1, (.int .u8 32)), (33, 1, (.int .u8 124)), (34, 1, (.int .u8 59))] H15) fun y16 H17 =>
 S.b (markV y16 H17) fun y18 H19 =>
 S.b (C 8 [y18] H19) fun y20 H21 =>
 S.b (extr 0 y20 H21) fun y22 H23 =>
 S.b (extr 1 y20 H23) fun y24 H25 =>
 S.b (extr 2 y20 H25) fun y26 H27 =>
 S.b (newV [(.slice none 0 0), (.string ⟨#[]⟩), (.slice none 0 0), (.slice none 0 0), (.slice none 0 0)] H27) fun y28 H29 =>
 S.b (stV 5 y28 y22 H29) fun _ H30 =>
 S.b (up (binB Tryd.prog .eql 30 y11 (.int .i64 0)) H30) fun y31 H32 =>
 S.b (gd (wd y31 true) (some (y26, H32)) H32) fun y33 H34 =>
 S.b (gd (wd y31 true) (up (binB Tryd.prog .eql 30 y33 (.int .i64 0)) H34) H34) fun y35 H36 =>
 S.b (pickV y31 y35 (.bool false) H36) fun y37 H38 =>
 S.b (gd (wd y37 true) (up (fAddr 0 y13) H38) H38) fun y39 H40 =>
 S.b (gd (wd y37 true) (ldC y39 H40) H40) fun y41 H42 =>
 S.b (gd (wd y37 true) (up (lenS y41) H42) H42) fun y43 H44 =>
 S.b (gd (wd y37 true) (up (binB Tryd.prog .eql 3 y43 (.int .i64 1)) H44) H44) fun y45 H46 =>
 S.b (pickV y37 y45 (.bool false) H46) fun y47 H48 =>
 S.b (gd (wd y47 true) (up (fAddr 0 y13) H48) H48) fun y49 H50 =>
 S.b (gd (wd y47 true) (ldC y49 H50) H50) fun y51 H52 =>
 S.b (gd (wd y47 true) (up (iAddrS 1 y51 (.int .i64 0)) H52) H52) fun y53 H54 =>
 S.b (gd (wd y47 true) (ldC y53 H54) H54) fun y55 H56 =>
 S.b (gd (wd y47 true) (up (binB Tryd.prog .eql 9 y55 (.string ⟨#[97, 46, 103]⟩)) H56) H56) fun y57 H58 =>
 S.b (pickV y47 y57 (.bool false) H58) fun y59 H60 =>
 S.b (gd (wd y59 true) (up (fAddr 1 y13) H60) H60) fun y61 H62 =>
 S.b (gd (wd y59 true) (ldC y61 H62) H62) fun y63 H64 =>
 S.b (gd (wd y59 true) (up (binB Tryd.prog .eql 9 y63 (.string ⟨#[101]⟩)) H64) H64) fun y65 H66 =>
 S.b (pickV y59 y65 (.bool false) H66) fun y67 H68 =>
 S.b (gd (wd y67 true) (up (fAddr 4 y28) H68) H68) fun y69 H70 =>
 S.b (gd (wd y67 true) (ldC y69 H70) H70) fun y71 H72 =>
 S.b (gd (wd y67 true) (up (lenS y71) H72) H72) fun y73 H74 =>
 S.b (gd (wd y67 true) (up (binB Tryd.prog .eql 3 y73 (.int .i64 1)) H74) H74) fun y75 H76 =>
 S.b (pickV y67 y75 (.bool false) H76) fun y77 H78 =>
 S.b (gd (wd y77 true) (up (fAddr 4 y28) H78) H78) fun y79 H80 =>
 S.b (gd (wd y77 true) (ldC y79 H80) H80) fun y81 H82 =>
 S.b (gd (wd y77 true) (up (iAddrS 2 y81 (.int .i64 0)) H82) H82) fun y83 H84 =>
 S.b (gd (wd y77 true) (up (fAddr 0 y83) H84) H84) fun y85 H86 =>
 S.b (gd (wd y77 true) (ldC y85 H86) H86) fun y87 H88 =>
 S.b (gd (wd y77 true) (up (binB Tryd.prog .eql 9 y87 (.string ⟨#[101]⟩)) H88) H88) fun y89 H90 =>
 S.b (pickV y77 y89 (.bool false) H90) fun y91 H92 =>
 S.b (gd (wd y91 true) (up (fAddr 4 y28) H92) H92) fun y93 H94 =>
 S.b (gd (wd y91 true) (ldC y93 H94) H94) fun y95 H96 =>
 S.b (gd (wd y91 true) (up (iAddrS 2 y95 (.int .i64 0)) H96) H96) fun y97 H98 =>
 S.b (gd (wd y91 true) (up (fAddr 1 y97) H98) H98) fun y99 H100 =>
 S.b (gd (wd y91 true) (ldC y99 H100) H100) fun y101 H102 =>
 S.b (gd (wd y91 true) (up (lenS y101) H102) H102) fun y103 H104 =>
 S.b (gd (wd y91 true) (up (binB Tryd.prog .eql 3 y103 (.int .i64 3)) H104) H104) fun y105 H106 =>
 S.b (pickV y91 y105 (.bool false) H106) fun y107 H108 =>
 S.b (up (unB .not y107) H108) fun y109 H110 =>
 S.i y109
 (some ((.bool false), H110))
 (S.b (up (fAddr 4 y28) H110) fun y111 H112 =>
  S.b (ldC y111 H112) fun y113 H114 =>
  S.b (up (iAddrS 2 y113 (.int .i64 0)) H114) fun y115 H116 =>
  S.b (up (fAddr 1 y115) H116) fun y117 H118 =>
  S.b (ldC y117 H118) fun y119 H120 =>
  S.b (up (iAddrS 2 y119 (.int .i64 0)) H120) fun y121 H122 =>
  S.b (up (fAddr 0 y121) H122) fun y123 H124 =>
  S.b (ldC y123 H124) fun y125 H126 =>
  S.b (up (lenS y125) H126) fun y127 H128 =>
  S.b (up (binB Tryd.prog .eql 3 y127 (.int .i64 3)) H128) fun y129 H130 =>
  S.b (gd (wd y129 true) (some (y119, H130)) H130) fun y131 H132 =>
  S.b (gd (wd y129 true) (up (iAddrS 2 y131 (.int .i64 0)) H132) H132) fun y133 H134 =>
  S.b (gd (wd y129 true) (up (fAddr 1 y133) H134) H134) fun y135 H136 =>
  S.b (gd (wd y129 true) (ldC y135 H136) H136) fun y137 H138 =>
  S.b (gd (wd y129 true) (up (binB Tryd.prog .eql 9 y137 (.string ⟨#[108, 111, 119]⟩)) H138) H138) fun y139 H140 =>
  S.b (pickV y129 y139 (.bool false) H140) fun y141 H142 =>
  S.b (gd (wd y141 true) (some (y119, H142)) H142) fun y143 H144 =>
  S.b (gd (wd y141 true) (up (iAddrS 2 y143 (.int .i64 1)) H144) H144) fun y145 H146 =>
  S.b (gd (wd y141 true) (up (fAddr 0 y145) H146) H146) fun y147 H148 =>
  S.b (gd (wd y141 true) (ldC y147 H148) H148) fun y149 H150 =>
  S.b (gd (wd y141 true) (up (lenS y149) H150) H150) fun y151 H152 =>
  S.b (gd (wd y141 true) (up (binB Tryd.prog .eql 3 y151 (.int .i64 1)) H152) H152) fun y153 H154 =>
  S.b (pickV y141 y153 (.bool false) H154) fun y155 H156 =>
  S.b (gd (wd y155 true) (some (y119, H156)) H156) fun y157 H158 =>
  S.b (gd (wd y155 true) (up (iAddrS 2 y157 (.int .i64 2)) H158) H158) fun y159 H160 =>
  S.b (gd (wd y155 true) (up (fAddr 0 y159) H160) H160) fun y161 H162 =>
  S.b (gd (wd y155 true) (ldC y161 H162) H162) fun y163 H164 =>
  S.b (gd (wd y155 true) (up (lenS y163) H164) H164) fun y165 H166 =>
  S.b (gd (wd y155 true) (up (binB Tryd.prog .eql 3 y165 (.int .i64 0)) H166) H166) fun y167 H168 =>
  S.b (pickV y155 y167 (.bool false) H168) fun y169 H170 =>
  S.b (gd (wd y169 true) (C 23 [(.string ⟨#[108, 101, 102, 116, 32, 59]⟩), (.int .i64 5)] H170) H170) fun y171 H172 =>
  S.b (pickV y169 y171 (.bool false) H172) fun y173 H174 =>
  S.b (gd (wd y173 true) (C 23 [(.string ⟨#[116, 101, 114, 109, 32, 110, 32, 61, 32, 120, 59]⟩), (.int .i64 9)] H174) H174) fun y175 H176 =>
  S.b (pickV y173 y175 (.bool false) H176) fun y177 H178 =>
  S.b (gd (wd y177 true) (C 23 [(.string ⟨#[114, 117, 108, 101, 32, 101, 32, 58, 32, 97]⟩), (.int .i64 10)] H178) H178) fun y179 H180 =>
  S.b (pickV y177 y179 (.bool false) H180) fun y181 H182 =>
  some (y181, H182))

theorem f12_main (S : Seam (Value × Heap)) (C : CallF) (n : Nat) (H : Heap) : acodeK S Tryd.prog C n 115 f12_c (env0 []) H (fin Tryd.prog Tryd.f12) = f12 S C n H := by
  kernel_rfl


theorem f12_eq {E : Ext} (hE : E 12 = none) (n : Nat) (H : Heap) : acall Tryd.prog true E (n + 1) 12 [] H = f12 real (acall Tryd.prog true E n) n H :=
  (acall_eq (N := 115) Tryd.func12 (by kernel_rfl) (by kernel_rfl) hE (by kernel_rfl) (by kernel_rfl)).trans (f12_main real _ n H)

/-! incunable/incunablelaw15.joined -/
noncomputable def f13_c : Code := (Tryd.f13.body).getD .skip

noncomputable def f13_J1 (S : Seam (Value × Heap)) (C : CallF) (n : Nat) (y30 y31 y32 : Value) (H33 : Heap) : Option (Value × Heap) :=
 S.b (up (fAddr 0 y30) H33) fun y34 H35 =>
 S.b (ldC y34 H35) fun y36 H37 =>
 S.b (up (fAddr 0 y31) H37) fun y38 H39 =>
 S.b (ldC y38 H39) fun y40 H41 =>
 S.b (app 1 16 y36 y40 H41) fun y42 H43 =>
 S.b (up (fAddr 0 y30) H43) fun y44 H45 =>
 S.b (stV 1 y44 y42 H45) fun _ H46 =>
 S.b (up (fAddr 2 y30) H46) fun y47 H48 =>
 S.b (ldC y47 H48) fun y49 H50 =>
 S.b (up (fAddr 2 y31) H50) fun y51 H52 =>
 S.b (ldC y51 H52) fun y53 H54 =>
 S.b (app 3 40 y49 y53 H54) fun y55 H56 =>
 S.b (up (fAddr 2 y30) H56) fun y57 H58 =>
 S.b (stV 1 y57 y55 H58) fun _ H59 =>
 S.b (up (fAddr 3 y30) H59) fun y60 H61 =>
 S.b (ldC y60 H61) fun y62 H63 =>
 S.b (up (fAddr 3 y31) H63) fun y64 H65 =>
 S.b (ldC y64 H65) fun y66 H67 =>
 S.b (app 2 32 y62 y66 H67) fun y68 H69 =>
 S.b (up (fAddr 3 y30) H69) fun y70 H71 =>
 S.b (stV 1 y70 y68 H71) fun _ H72 =>
 S.b (up (fAddr 4 y30) H72) fun y73 H74 =>
 S.b (ldC y73 H74) fun y75 H76 =>
 S.b (up (fAddr 4 y31) H76) fun y77 H78 =>
 S.b (ldC y77 H78) fun y79 H80 =>
 S.b (app 2 40 y75 y79 H80) fun y81 H82 =>
 S.b (up (fAddr 4 y30) H82) fun y83 H84 =>
 S.b (stV 1 y83 y81 H84) fun _ H85 =>
 S.b (ldA 5 y30 H85) fun y86 H87 =>
 S.b (stV 5 y32 y86 H87) fun _ H88 =>
 (resM [(ldA 5 y32 H88).map (·.1)]).map fun l => (one l, H88)

noncomputable def f13 (S : Seam (Value × Heap)) (C : CallF) (n : Nat) (x0 : Value) (x1 : Value) (H : Heap) : Option (Value × Heap) :=
 S.b (newV (Value.cells x0).toList H) fun y1 H2 =>
 S.b (newV (Value.cells x1).toList H2) fun y3 H4 =>
 S.b (newV [(.slice none 0 0), (.string ⟨#[]⟩), (.slice none 0 0), (.slice none 0 0), (.slice none 0 0)] H4) fun y5 H6 =>
 S.b (ldA 5 y1 H6) fun y7 H8 =>
 S.b (C 14 [y7] H8) fun y9 H10 =>
 S.b (stV 5 y1 y9 H10) fun _ H11 =>
 S.b (ldA 5 y3 H11) fun y12 H13 =>
 S.b (C 14 [y12] H13) fun y14 H15 =>
 S.b (stV 5 y3 y14 H15) fun _ H16 =>
 S.b (up (fAddr 1 y1) H16) fun y17 H18 =>
 S.b (ldC y17 H18) fun y19 H20 =>
 S.b (up (binB Tryd.prog .eql 9 y19 (.string ⟨#[]⟩)) H20) fun y21 H22 =>
 S.i y21
 (S.b (up (fAddr 1 y3) H22) fun y23 H24 =>
  S.b (ldC y23 H24) fun y25 H26 =>
  S.b (up (fAddr 1 y1) H26) fun y27 H28 =>
  S.b (stV 1 y27 y25 H28) fun _ H29 =>
  f13_J1 S C n y1 y3 y5 H29)
 (f13_J1 S C n y1 y3 y5 H22)

theorem f13_main (S : Seam (Value × Heap)) (C : CallF) (n : Nat) (x0 : Value) (x1 : Value) (H : Heap) : acodeK S Tryd.prog C n 40 f13_c (env0 [x0, x1]) H (fin Tryd.prog Tryd.f13) = f13 S C n x0 x1 H := by
  kernel_rfl


theorem f13_eq {E : Ext} (hE : E 13 = none) (n : Nat) (x0 : Value) (x1 : Value) (H : Heap) : acall Tryd.prog true E (n + 1) 13 [x0, x1] H = f13 real (acall Tryd.prog true E n) n x0 x1 H :=
  (acall_eq (N := 40) Tryd.func13 (by kernel_rfl) (by kernel_rfl) hE (by kernel_rfl) (by kernel_rfl)).trans (f13_main real _ n x0 x1 H)

/-! incunable/incunableref15.Copy -/
noncomputable def f14_c : Code := (Tryd.f14.body).getD .skip

noncomputable def f14_L2 (S : Seam (Value × Heap)) (C : CallF) (n : Nat) (R1 : Value→Value→Value→Value→Heap→Option (Value × Heap)) : Nat → Value → Value → Value → Value → Value → Value → Heap → Option (Value × Heap)
 | 0, _, _, _, _, _, _, _ => none
 | m + 1, y130, y131, y132, y133, y134, y135, H136 =>
   S.b (up (fAddr 4 y130) H136) fun y137 H138 =>
   S.b (ldC y137 H138) fun y139 H140 =>
   S.b (up (iAddrS 2 y139 y133) H140) fun y141 H142 =>
   S.b (up (fAddr 1 y141) H142) fun y143 H144 =>
   S.b (ldC y143 H144) fun y145 H146 =>
   S.b (up (lenS y145) H146) fun y147 H148 =>
   S.b (up (binB Tryd.prog .lss 3 y135 y147) H148) fun y149 H150 =>
   S.i y149
   (S.b (up (fAddr 4 y130) H150) fun y151 H152 =>
    S.b (ldC y151 H152) fun y153 H154 =>
    S.b (up (iAddrS 2 y153 y133) H154) fun y155 H156 =>
    S.b (up (fAddr 1 y155) H156) fun y157 H158 =>
    S.b (ldC y157 H158) fun y159 H160 =>
    S.b (up (iAddrS 2 y159 y135) H160) fun y161 H162 =>
    S.b (up (fAddr 1 y161) H162) fun y163 H164 =>
    S.b (ldC y163 H164) fun y165 H166 =>
    S.b (bld [(.slice none 0 0), (.string ⟨#[]⟩)] [(1, 1, y165)] H166) fun y167 H168 =>
    S.b (newV [(.slice none 0 0), (.string ⟨#[]⟩)] H168) fun y169 H170 =>
    S.b (stV 2 y169 y167 H170) fun _ H171 =>
    S.b (up (fAddr 0 y169) H171) fun y172 H173 =>
    S.c true (S.b (ldC y172 H173) fun y174 H175 =>
    S.b (up (fAddr 4 y130) H175) fun y176 H177 =>
    S.c true (S.b (ldC y176 H177) fun y178 H179 =>
    S.b (up (iAddrS 2 y178 y133) H179) fun y180 H181 =>
    S.b (up (fAddr 1 y180) H181) fun y182 H183 =>
    S.c true (S.b (ldC y182 H183) fun y184 H185 =>
    S.b (up (iAddrS 2 y184 y135) H185) fun y186 H187 =>
    S.b (up (fAddr 0 y186) H187) fun y188 H189 =>
    S.c true (S.b (ldC y188 H189) fun y190 H191 =>
    S.b (app 1 16 y174 y190 H191) fun y192 H193 =>
    S.c true (S.b (up (fAddr 0 y169) H193) fun y194 H195 =>
     S.b (stV 1 y194 y192 H195) fun _ H196 =>
     S.c true (S.b (up (fAddr 1 y134) H196) fun y197 H198 =>
      S.b (ldC y197 H198) fun y199 H200 =>
      S.b (ldA 2 y169 H200) fun y201 H202 =>
      S.b (bldS 2 1 [(.slice none 0 0), (.string ⟨#[]⟩)] [(0, 2, y201)] H202) fun y203 H204 =>
      S.b (app 2 40 y199 y203 H204) fun y205 H206 =>
      S.b (up (fAddr 1 y134) H206) fun y207 H208 =>
      S.b (stV 1 y207 y205 H208) fun _ H209 =>
      S.b (up (binB Tryd.prog .add 3 y135 (.int .i64 1)) H209) fun y210 H211 =>
      f14_L2 S C n R1 m y130 y131 y132 y133 y134 y210 H211)))))))
   (S.b (up (fAddr 4 y132) H150) fun y212 H213 =>
    S.b (ldC y212 H213) fun y214 H215 =>
    S.b (ldA 2 y134 H215) fun y216 H217 =>
    S.b (bldS 2 1 [(.string ⟨#[]⟩), (.slice none 0 0)] [(0, 2, y216)] H217) fun y218 H219 =>
    S.b (app 2 40 y214 y218 H219) fun y220 H221 =>
    S.b (up (fAddr 4 y132) H221) fun y222 H223 =>
    S.b (stV 1 y222 y220 H223) fun _ H224 =>
    S.b (up (binB Tryd.prog .add 3 y133 (.int .i64 1)) H224) fun y225 H226 =>
    R1 y130 y131 y132 y225 H226)

theorem f14_L2_eq (S : Seam (Value × Heap)) (C : CallF) (n : Nat) (R1 : Value→Value→Value→Value→Heap→Option (Value × Heap)) : ∀ (m : Nat) (env : Env) (H : Heap), aloopK (acodeK S Tryd.prog C n 118 (cAt f14_c [1, 1, 1, 1, 1, 0, 1, 0, 0, 1, 0, 0, 1, 0, 1, 0, 0])) m env H (kAt S Tryd.prog C n 118 (cAt f14_c [1, 1, 1, 1, 1, 0, 1, 0, 0]) [1, 0, 0, 1, 0, 1, 0] (onNormal (fun env' H' => R1 (env' 1) (env' 2) (env' 3) (env' 6) H') (kAt S Tryd.prog C n 118 f14_c [1, 1, 1, 1, 1, 0, 1, 0] (fin Tryd.prog Tryd.f14)))) = f14_L2 S C n R1 m (env 1) (env 2) (env 3) (env 6) (env 7) (env 8) H := by
  intro m env H
  refine aloopK_eq (L := fun m env H => f14_L2 S C n R1 m (env 1) (env 2) (env 3) (env 6) (env 7) (env 8) H) (fun env H => rfl) (fun m env H => ?_) m env H
  kernel_rfl


noncomputable def f14_L1 (S : Seam (Value × Heap)) (C : CallF) (n : Nat) : Nat → Value → Value → Value → Value → Heap → Option (Value × Heap)
 | 0, _, _, _, _, _ => none
 | m + 1, y102, y103, y104, y105, H106 =>
   S.b (up (fAddr 4 y102) H106) fun y107 H108 =>
   S.b (ldC y107 H108) fun y109 H110 =>
   S.b (up (lenS y109) H110) fun y111 H112 =>
   S.b (up (binB Tryd.prog .lss 3 y105 y111) H112) fun y113 H114 =>
   S.i y113
   (S.b (up (fAddr 4 y102) H114) fun y115 H116 =>
    S.b (ldC y115 H116) fun y117 H118 =>
    S.b (up (iAddrS 2 y117 y105) H118) fun y119 H120 =>
    S.b (up (fAddr 0 y119) H120) fun y121 H122 =>
    S.b (ldC y121 H122) fun y123 H124 =>
    S.b (bld [(.string ⟨#[]⟩), (.slice none 0 0)] [(0, 1, y123)] H124) fun y125 H126 =>
    S.b (newV [(.string ⟨#[]⟩), (.slice none 0 0)] H126) fun y127 H128 =>
    S.b (stV 2 y127 y125 H128) fun _ H129 =>
    f14_L2 S C n (f14_L1 S C n m) n y102 y103 y104 y105 y127 (.int .i64 0) H129)
   (S.b (ldA 5 y104 H114) fun y227 H228 =>
    S.b (stV 5 y103 y227 H228) fun _ H229 =>
    (resM [(ldA 5 y103 H229).map (·.1)]).map fun l => (one l, H229))

noncomputable def f14_L1G (S : Seam (Value × Heap)) (C : CallF) (n : Nat) (R1 : Value→Value→Value→Value→Heap→Option (Value × Heap)) (P2 : Env → Heap → Option (Value × Heap)) (env : Env) (H : Heap) : Option (Value × Heap) :=
 S.b (up (fAddr 4 (env 1)) H) fun y230 H231 =>
 S.b (ldC y230 H231) fun y232 H233 =>
 S.b (up (lenS y232) H233) fun y234 H235 =>
 S.b (up (binB Tryd.prog .lss 3 (env 6) y234) H235) fun y236 H237 =>
 S.i y236
 (S.b (up (fAddr 4 (env 1)) H237) fun y238 H239 =>
  S.b (ldC y238 H239) fun y240 H241 =>
  S.b (up (iAddrS 2 y240 (env 6)) H241) fun y242 H243 =>
  S.b (up (fAddr 0 y242) H243) fun y244 H245 =>
  S.b (ldC y244 H245) fun y246 H247 =>
  S.b (bld [(.string ⟨#[]⟩), (.slice none 0 0)] [(0, 1, y246)] H247) fun y248 H249 =>
  S.b (newV [(.string ⟨#[]⟩), (.slice none 0 0)] H249) fun y250 H251 =>
  S.b (stV 2 y250 y248 H251) fun u252 H253 =>
  P2 (putE 118 (putE 118 (putE 118 (putE 118 (putE 118 (putE 118 (putE 118 (putE 118 (putE 118 (putE 118 (putE 118 (putE 118 (putE 118 (putE 118 (putE 118 env (some 55) (env 6)) (some 56) y230) (some 57) y232) (some 58) y234) (some 59) y236) (some 62) y238) (some 63) y240) (some 64) (env 6)) (some 65) y242) (some 66) y244) (some 67) y246) (some 68) y248) (some 7) y250) none u252) (some 8) (.int .i64 0)) H253)
 (S.b (ldA 5 (env 3) H237) fun y254 H255 =>
  S.b (stV 5 (env 2) y254 H255) fun u256 H257 =>
  (resM [(ldA 5 (env 2) H257).map (·.1)]).map fun l => (one l, H257))

theorem f14_L1_eq (S : Seam (Value × Heap)) (C : CallF) (n : Nat) : ∀ (m : Nat) (env : Env) (H : Heap), aloopK (acodeK S Tryd.prog C n 118 (cAt f14_c [1, 1, 1, 1, 1, 0, 1, 0, 0])) m env H (kAt S Tryd.prog C n 118 f14_c [1, 1, 1, 1, 1, 0, 1, 0] (fin Tryd.prog Tryd.f14)) = f14_L1 S C n m (env 1) (env 2) (env 3) (env 6) H := by
  intro m env H
  refine aloopK_eq (L := fun m env H => f14_L1 S C n m (env 1) (env 2) (env 3) (env 6) H) (fun env H => rfl) (fun m env H => ?_) m env H
  have h1 : acodeK S Tryd.prog C n 118 (cAt f14_c [1, 1, 1, 1, 1, 0, 1, 0, 0]) env H (onNormal (fun env' H' => f14_L1 S C n m (env' 1) (env' 2) (env' 3) (env' 6) H') (kAt S Tryd.prog C n 118 f14_c [1, 1, 1, 1, 1, 0, 1, 0] (fin Tryd.prog Tryd.f14))) = f14_L1G S C n (f14_L1 S C n m) (fun env H => aloopK (acodeK S Tryd.prog C n 118 (cAt f14_c [1, 1, 1, 1, 1, 0, 1, 0, 0, 1, 0, 0, 1, 0, 1, 0, 0])) n env H (kAt S Tryd.prog C n 118 (cAt f14_c [1, 1, 1, 1, 1, 0, 1, 0, 0]) [1, 0, 0, 1, 0, 1, 0] (onNormal (fun env' H' => (f14_L1 S C n m) (env' 1) (env' 2) (env' 3) (env' 6) H') (kAt S Tryd.prog C n 118 f14_c [1, 1, 1, 1, 1, 0, 1, 0] (fin Tryd.prog Tryd.f14))))) env H := by kernel_rfl
  have e0 : (fun env H => aloopK (acodeK S Tryd.prog C n 118 (cAt f14_c [1, 1, 1, 1, 1, 0, 1, 0, 0, 1, 0, 0, 1, 0, 1, 0, 0])) n env H (kAt S Tryd.prog C n 118 (cAt f14_c [1, 1, 1, 1, 1, 0, 1, 0, 0]) [1, 0, 0, 1, 0, 1, 0] (onNormal (fun env' H' => (f14_L1 S C n m) (env' 1) (env' 2) (env' 3) (env' 6) H') (kAt S Tryd.prog C n 118 f14_c [1, 1, 1, 1, 1, 0, 1, 0] (fin Tryd.prog Tryd.f14))))) = (fun env H => f14_L2 S C n (f14_L1 S C n m) n (env 1) (env 2) (env 3) (env 6) (env 7) (env 8) H) := by funext env H; exact f14_L2_eq S C n (f14_L1 S C n m) n env H
  rw [e0] at h1
  exact h1.trans (by kernel_rfl)


noncomputable def f14_L0 (S : Seam (Value × Heap)) (C : CallF) (n : Nat) : Nat → Value → Value → Value → Value → Heap → Option (Value × Heap)
 | 0, _, _, _, _, _ => none
 | m + 1, y40, y41, y42, y43, H44 =>
   S.b (up (fAddr 3 y40) H44) fun y45 H46 =>
   S.b (ldC y45 H46) fun y47 H48 =>
   S.b (up (lenS y47) H48) fun y49 H50 =>
   S.b (up (binB Tryd.prog .lss 3 y43 y49) H50) fun y51 H52 =>
   S.i y51
   (S.b (up (fAddr 3 y40) H52) fun y53 H54 =>
    S.b (ldC y53 H54) fun y55 H56 =>
    S.b (up (iAddrS 2 y55 y43) H56) fun y57 H58 =>
    S.b (up (fAddr 0 y57) H58) fun y59 H60 =>
    S.b (ldC y59 H60) fun y61 H62 =>
    S.b (bld [(.int .i64 0), (.slice none 0 0)] [(0, 1, y61)] H62) fun y63 H64 =>
    S.b (newV [(.int .i64 0), (.slice none 0 0)] H64) fun y65 H66 =>
    S.b (stV 2 y65 y63 H66) fun _ H67 =>
    S.b (up (fAddr 1 y65) H67) fun y68 H69 =>
    S.c true (S.b (ldC y68 H69) fun y70 H71 =>
    S.b (up (fAddr 3 y40) H71) fun y72 H73 =>
    S.c true (S.b (ldC y72 H73) fun y74 H75 =>
    S.b (up (iAddrS 2 y74 y43) H75) fun y76 H77 =>
    S.b (up (fAddr 1 y76) H77) fun y78 H79 =>
    S.c true (S.b (ldC y78 H79) fun y80 H81 =>
    S.b (app 1 16 y70 y80 H81) fun y82 H83 =>
    S.c true (S.b (up (fAddr 1 y65) H83) fun y84 H85 =>
     S.b (stV 1 y84 y82 H85) fun _ H86 =>
     S.c true (S.b (up (fAddr 3 y42) H86) fun y87 H88 =>
      S.b (ldC y87 H88) fun y89 H90 =>
      S.b (ldA 2 y65 H90) fun y91 H92 =>
      S.b (bldS 2 1 [(.int .i64 0), (.slice none 0 0)] [(0, 2, y91)] H92) fun y93 H94 =>
      S.b (app 2 32 y89 y93 H94) fun y95 H96 =>
      S.b (up (fAddr 3 y42) H96) fun y97 H98 =>
      S.b (stV 1 y97 y95 H98) fun _ H99 =>
      S.b (up (binB Tryd.prog .add 3 y43 (.int .i64 1)) H99) fun y100 H101 =>
      f14_L0 S C n m y40 y41 y42 y100 H101))))))
   (f14_L1 S C n n y40 y41 y42 (.int .i64 0) H52)

noncomputable def f14_L0G (S : Seam (Value × Heap)) (C : CallF) (n : Nat) (R0 : Value→Value→Value→Value→Heap→Option (Value × Heap)) (P1 : Env → Heap → Option (Value × Heap)) (env : Env) (H : Heap) : Option (Value × Heap) :=
 S.b (up (fAddr 3 (env 1)) H) fun y258 H259 =>
 S.b (ldC y258 H259) fun y260 H261 =>
 S.b (up (lenS y260) H261) fun y262 H263 =>
 S.b (up (binB Tryd.prog .lss 3 (env 4) y262) H263) fun y264 H265 =>
 S.i y264
 (S.b (up (fAddr 3 (env 1)) H265) fun y266 H267 =>
  S.b (ldC y266 H267) fun y268 H269 =>
  S.b (up (iAddrS 2 y268 (env 4)) H269) fun y270 H271 =>
  S.b (up (fAddr 0 y270) H271) fun y272 H273 =>
  S.b (ldC y272 H273) fun y274 H275 =>
  S.b (bld [(.int .i64 0), (.slice none 0 0)] [(0, 1, y274)] H275) fun y276 H277 =>
  S.b (newV [(.int .i64 0), (.slice none 0 0)] H277) fun y278 H279 =>
  S.b (stV 2 y278 y276 H279) fun u280 H281 =>
  S.b (up (fAddr 1 y278) H281) fun y282 H283 =>
  S.c true (S.b (ldC y282 H283) fun y284 H285 =>
  S.b (up (fAddr 3 (env 1)) H285) fun y286 H287 =>
  S.c true (S.b (ldC y286 H287) fun y288 H289 =>
  S.b (up (iAddrS 2 y288 (env 4)) H289) fun y290 H291 =>
  S.b (up (fAddr 1 y290) H291) fun y292 H293 =>
  S.c true (S.b (ldC y292 H293) fun y294 H295 =>
  S.b (app 1 16 y284 y294 H295) fun y296 H297 =>
  S.c true (S.b (up (fAddr 1 y278) H297) fun y298 H299 =>
   S.b (stV 1 y298 y296 H299) fun u300 H301 =>
   S.c true (S.b (up (fAddr 3 (env 3)) H301) fun y302 H303 =>
    S.b (ldC y302 H303) fun y304 H305 =>
    S.b (ldA 2 y278 H305) fun y306 H307 =>
    S.b (bldS 2 1 [(.int .i64 0), (.slice none 0 0)] [(0, 2, y306)] H307) fun y308 H309 =>
    S.b (app 2 32 y304 y308 H309) fun y310 H311 =>
    S.b (up (fAddr 3 (env 3)) H311) fun y312 H313 =>
    S.b (stV 1 y312 y310 H313) fun u314 H315 =>
    S.b (up (binB Tryd.prog .add 3 (env 4) (.int .i64 1)) H315) fun y316 H317 =>
    R0 (env 1) (env 2) (env 3) y316 H317))))))
 (P1 (putE 118 (putE 118 (putE 118 (putE 118 (putE 118 (putE 118 env (some 25) (env 4)) (some 26) y258) (some 27) y260) (some 28) y262) (some 29) y264) (some 6) (.int .i64 0)) H265)

theorem f14_L0_eq (S : Seam (Value × Heap)) (C : CallF) (n : Nat) : ∀ (m : Nat) (env : Env) (H : Heap), aloopK (acodeK S Tryd.prog C n 118 (cAt f14_c [1, 1, 1, 1, 0, 1, 0, 0])) m env H (kAt S Tryd.prog C n 118 f14_c [1, 1, 1, 1, 0, 1, 0] (fin Tryd.prog Tryd.f14)) = f14_L0 S C n m (env 1) (env 2) (env 3) (env 4) H := by
  intro m env H
  refine aloopK_eq (L := fun m env H => f14_L0 S C n m (env 1) (env 2) (env 3) (env 4) H) (fun env H => rfl) (fun m env H => ?_) m env H
  have h1 : acodeK S Tryd.prog C n 118 (cAt f14_c [1, 1, 1, 1, 0, 1, 0, 0]) env H (onNormal (fun env' H' => f14_L0 S C n m (env' 1) (env' 2) (env' 3) (env' 4) H') (kAt S Tryd.prog C n 118 f14_c [1, 1, 1, 1, 0, 1, 0] (fin Tryd.prog Tryd.f14))) = f14_L0G S C n (f14_L0 S C n m) (fun env H => aloopK (acodeK S Tryd.prog C n 118 (cAt f14_c [1, 1, 1, 1, 1, 0, 1, 0, 0])) n env H (kAt S Tryd.prog C n 118 f14_c [1, 1, 1, 1, 1, 0, 1, 0] (fin Tryd.prog Tryd.f14))) env H := by kernel_rfl
  have e0 : (fun env H => aloopK (acodeK S Tryd.prog C n 118 (cAt f14_c [1, 1, 1, 1, 1, 0, 1, 0, 0])) n env H (kAt S Tryd.prog C n 118 f14_c [1, 1, 1, 1, 1, 0, 1, 0] (fin Tryd.prog Tryd.f14))) = (fun env H => f14_L1 S C n n (env 1) (env 2) (env 3) (env 6) H) := by funext env H; exact f14_L1_eq S C n n env H
  rw [e0] at h1
  exact h1.trans (by kernel_rfl)


noncomputable def f14 (S : Seam (Value × Heap)) (C : CallF) (n : Nat) (x0 : Value) (H : Heap) : Option (Value × Heap) :=
 S.b (newV (Value.cells x0).toList H) fun y1 H2 =>
 S.b (newV [(.slice none 0 0), (.string ⟨#[]⟩), (.slice none 0 0), (.slice none 0 0), (.slice none 0 0)] H2) fun y3 H4 =>
 S.b (up (fAddr 1 y1) H4) fun y5 H6 =>
 S.b (ldC y5 H6) fun y7 H8 =>
 S.b (bld [(.slice none 0 0), (.string ⟨#[]⟩), (.slice none 0 0), (.slice none 0 0), (.slice none 0 0)] [(1, 1, y7)] H8) fun y9 H10 =>
 S.b (newV [(.slice none 0 0), (.string ⟨#[]⟩), (.slice none 0 0), (.slice none 0 0), (.slice none 0 0)] H10) fun y11 H12 =>
 S.b (stV 5 y11 y9 H12) fun _ H13 =>
 S.b (up (fAddr 0 y11) H13) fun y14 H15 =>
 S.b (ldC y14 H15) fun y16 H17 =>
 S.b (up (fAddr 0 y1) H17) fun y18 H19 =>
 S.b (ldC y18 H19) fun y20 H21 =>
 S.b (app 1 16 y16 y20 H21) fun y22 H23 =>
 S.b (up (fAddr 0 y11) H23) fun y24 H25 =>
 S.b (stV 1 y24 y22 H25) fun _ H26 =>
 S.b (up (fAddr 2 y11) H26) fun y27 H28 =>
 S.b (ldC y27 H28) fun y29 H30 =>
 S.b (up (fAddr 2 y1) H30) fun y31 H32 =>
 S.b (ldC y31 H32) fun y33 H34 =>
 S.b (app 3 40 y29 y33 H34) fun y35 H36 =>
 S.b (up (fAddr 2 y11) H36) fun y37 H38 =>
 S.b (stV 1 y37 y35 H38) fun _ H39 =>
 f14_L0 S C n n y1 y3 y11 (.int .i64 0) H39

noncomputable def f14G (S : Seam (Value × Heap)) (C : CallF) (n : Nat) (P0 : Env → Heap → Option (Value × Heap)) (x0 : Value) (H : Heap) : Option (Value × Heap) :=
 S.b (newV (Value.cells x0).toList H) fun y318 H319 =>
 S.b (newV [(.slice none 0 0), (.string ⟨#[]⟩), (.slice none 0 0), (.slice none 0 0), (.slice none 0 0)] H319) fun y320 H321 =>
 S.b (up (fAddr 1 y318) H321) fun y322 H323 =>
 S.b (ldC y322 H323) fun y324 H325 =>
 S.b (bld [(.slice none 0 0), (.string ⟨#[]⟩), (.slice none 0 0), (.slice none 0 0), (.slice none 0 0)] [(1, 1, y324)] H325) fun y326 H327 =>
 S.b (newV [(.slice none 0 0), (.string ⟨#[]⟩), (.slice none 0 0), (.slice none 0 0), (.slice none 0 0)] H327) fun y328 H329 =>
 S.b (stV 5 y328 y326 H329) fun u330 H331 =>
 S.b (up (fAddr 0 y328) H331) fun y332 H333 =>
 S.b (ldC y332 H333) fun y334 H335 =>
 S.b (up (fAddr 0 y318) H335) fun y336 H337 =>
 S.b (ldC y336 H337) fun y338 H339 =>
 S.b (app 1 16 y334 y338 H339) fun y340 H341 =>
 S.b (up (fAddr 0 y328) H341) fun y342 H343 =>
 S.b (stV 1 y342 y340 H343) fun u344 H345 =>
 S.b (up (fAddr 2 y328) H345) fun y346 H347 =>
 S.b (ldC y346 H347) fun y348 H349 =>
 S.b (up (fAddr 2 y318) H349) fun y350 H351 =>
 S.b (ldC y350 H351) fun y352 H353 =>
 S.b (app 3 40 y348 y352 H353) fun y354 H355 =>
 S.b (up (fAddr 2 y328) H355) fun y356 H357 =>
 S.b (stV 1 y356 y354 H357) fun u358 H359 =>
 P0 (putE 118 (putE 118 (putE 118 (putE 118 (putE 118 (putE 118 (putE 118 (putE 118 (putE 118 (putE 118 (putE 118 (putE 118 (putE 118 (putE 118 (putE 118 (putE 118 (putE 118 (putE 118 (putE 118 (putE 118 (putE 118 (putE 118 (env0 [x0]) (some 1) y318) (some 2) y320) (some 10) y322) (some 11) y324) (some 12) y326) (some 3) y328) none u330) (some 13) y332) (some 14) y334) (some 15) y336) (some 16) y338) (some 17) y340) (some 18) y342) none u344) (some 19) y346) (some 20) y348) (some 21) y350) (some 22) y352) (some 23) y354) (some 24) y356) none u358) (some 4) (.int .i64 0)) H359

theorem f14_main (S : Seam (Value × Heap)) (C : CallF) (n : Nat) (x0 : Value) (H : Heap) : acodeK S Tryd.prog C n 118 f14_c (env0 [x0]) H (fin Tryd.prog Tryd.f14) = f14 S C n x0 H := by
  have h1 : acodeK S Tryd.prog C n 118 f14_c (env0 [x0]) H (fin Tryd.prog Tryd.f14) = f14G S C n (fun env H => aloopK (acodeK S Tryd.prog C n 118 (cAt f14_c [1, 1, 1, 1, 0, 1, 0, 0])) n env H (kAt S Tryd.prog C n 118 f14_c [1, 1, 1, 1, 0, 1, 0] (fin Tryd.prog Tryd.f14))) x0 H := by kernel_rfl
  have e0 : (fun env H => aloopK (acodeK S Tryd.prog C n 118 (cAt f14_c [1, 1, 1, 1, 0, 1, 0, 0])) n env H (kAt S Tryd.prog C n 118 f14_c [1, 1, 1, 1, 0, 1, 0] (fin Tryd.prog Tryd.f14))) = (fun env H => f14_L0 S C n n (env 1) (env 2) (env 3) (env 4) H) := by funext env H; exact f14_L0_eq S C n n env H
  rw [e0] at h1
  exact h1.trans (by kernel_rfl)


theorem f14_eq {E : Ext} (hE : E 14 = none) (n : Nat) (x0 : Value) (H : Heap) : acall Tryd.prog true E (n + 1) 14 [x0] H = f14 real (acall Tryd.prog true E n) n x0 H :=
  (acall_eq (N := 118) Tryd.func14 (by kernel_rfl) (by kernel_rfl) hE (by kernel_rfl) (by kernel_rfl)).trans (f14_main real _ n x0 H)

/-! incunable/incunableref00.Bring -/
noncomputable def f15_c : Code := (Tryd.f15.body).getD .skip

noncomputable def f15 (S : Seam (Value × Heap)) (C : CallF) (n : Nat) (x0 : Value) (x1 : Value) (H : Heap) : Option (Value × Heap) :=
 S.b (up (binB Tryd.prog .leq 3 x1 (.int .i64 0)) H) fun y1 H2 =>
 S.i y1
 (some ((.int .i64 0), H2))
 (S.b (up (binB Tryd.prog .rem 3 x0 x1) H2) fun y3 H4 =>
  S.b (up (binB Tryd.prog .lss 3 y3 (.int .i64 0)) H4) fun y5 H6 =>
  S.i y5
  (S.b (up (binB Tryd.prog .add 3 y3 x1) H6) fun y7 H8 =>
   some (y7, H8))
  (some (y3, H6)))

theorem f15_main (S : Seam (Value × Heap)) (C : CallF) (n : Nat) (x0 : Value) (x1 : Value) (H : Heap) : acodeK S Tryd.prog C n 16 f15_c (env0 [x0, x1]) H (fin Tryd.prog Tryd.f15) = f15 S C n x0 x1 H := by
  kernel_rfl


theorem f15_eq {E : Ext} (hE : E 15 = none) (n : Nat) (x0 : Value) (x1 : Value) (H : Heap) : acall Tryd.prog true E (n + 1) 15 [x0, x1] H = f15 real (acall Tryd.prog true E n) n x0 x1 H :=
  (acall_eq (N := 16) Tryd.func15 (by kernel_rfl) (by kernel_rfl) hE (by kernel_rfl) (by kernel_rfl)).trans (f15_main real _ n x0 x1 H)

/-! incunable/words.Cut -/
noncomputable def f17_c : Code := (Tryd.f17.body).getD .skip

noncomputable def f17_J1 (S : Seam (Value × Heap)) (C : CallF) (n : Nat) (R0 : Value→Value→Value→Heap→Option (Value × Heap)) (y43 y44 y45 : Value) (H46 : Heap) : Option (Value × Heap) :=
 S.b (C 32 [y45, (.string ⟨#[32, 9, 10, 13]⟩)] H46) fun y47 H48 =>
 R0 y43 y44 y47 H48

noncomputable def f17_L0 (S : Seam (Value × Heap)) (C : CallF) (n : Nat) : Nat → Value → Value → Value → Heap → Option (Value × Heap)
 | 0, _, _, _, _ => none
 | m + 1, y7, y8, y9, H10 =>
   S.b (up (lenS y9) H10) fun y11 H12 =>
   S.b (up (binB Tryd.prog .gtr 3 y11 (.int .i64 0)) H12) fun y13 H14 =>
   S.i y13
   (S.b (up (lenS y7) H14) fun y15 H16 =>
    S.b (up (lenS y9) H16) fun y17 H18 =>
    S.b (up (binB Tryd.prog .sub 3 y15 y17) H18) fun y19 H20 =>
    S.b (up (iAddrS 1 y9 (.int .i64 0)) H20) fun y21 H22 =>
    S.b (ldC y21 H22) fun y23 H24 =>
    S.b (up (binB Tryd.prog .eql 5 y23 (.int .u8 35)) H24) fun y25 H26 =>
    S.i y25
    (S.b (bldS 1 1 [(.int .u8 0)] [(0, 1, (.int .u8 10))] H26) fun y27 H28 =>
     S.b (markV y27 H28) fun y29 H30 =>
     S.b (C 33 [y9, y29] H30) fun y31 H32 =>
     S.b (extr 0 y31 H32) fun y33 H34 =>
     S.b (extr 1 y31 H34) fun y35 H36 =>
     S.b (extr 2 y31 H36) fun y37 H38 =>
     f17_J1 S C n (f17_L0 S C n m) y7 y8 y35 H38)
    (S.b (toStr y9 H26) fun y49 H50 =>
     S.b (C 34 [y49] H50) fun y51 H52 =>
     S.b (extr 0 y51 H52) fun y53 H54 =>
     S.b (extr 1 y51 H54) fun y55 H56 =>
     S.b (up (binB Tryd.prog .eql 3 y53 (.int .i64 0)) H56) fun y57 H58 =>
     S.i y57
     (some (.tuple #[(.slice none 0 0), y19, (.int .i64 140)], H58))
     (S.b (up (binB Tryd.prog .add 3 y19 y55) H58) fun y59 H60 =>
      S.b (bld [(.int .i64 0), (.int .i64 0), (.int .i64 0)] [(0, 1, y53), (1, 1, y19), (2, 1, y59)] H60) fun y61 H62 =>
      S.b (bldS 3 1 [(.int .i64 0), (.int .i64 0), (.int .i64 0)] [(0, 3, y61)] H62) fun y63 H64 =>
      S.b (app 3 24 y8 y63 H64) fun y65 H66 =>
      S.b (up (slcS 1 y9 (some y55) none none) H66) fun y67 H68 =>
      f17_J1 S C n (f17_L0 S C n m) y7 y65 y67 H68)))
   (some (.tuple #[y8, (.int .i64 0), (.int .i64 0)], H14))

theorem f17_L0_eq (S : Seam (Value × Heap)) (C : CallF) (n : Nat) : ∀ (m : Nat) (env : Env) (H : Heap), aloopK (acodeK S Tryd.prog C n 58 (cAt f17_c [1, 1, 0, 1, 0, 0])) m env H (kAt S Tryd.prog C n 58 f17_c [1, 1, 0, 1, 0] (fin Tryd.prog Tryd.f17)) = f17_L0 S C n m (env 0) (env 2) (env 5) H := by
  intro m env H
  refine aloopK_eq (L := fun m env H => f17_L0 S C n m (env 0) (env 2) (env 5) H) (fun env H => rfl) (fun m env H => ?_) m env H
  kernel_rfl


noncomputable def f17 (S : Seam (Value × Heap)) (C : CallF) (n : Nat) (x0 : Value) (H : Heap) : Option (Value × Heap) :=
 S.b (up (lenS x0) H) fun y1 H2 =>
 S.b (up (binB Tryd.prog .gtr 3 y1 (.int .i64 8192)) H2) fun y3 H4 =>
 S.i y3
 (some (.tuple #[(.slice none 0 0), (.int .i64 0), (.int .i64 5)], H4))
 (S.b (C 32 [x0, (.string ⟨#[32, 9, 10, 13]⟩)] H4) fun y5 H6 =>
  f17_L0 S C n n x0 (.slice none 0 0) y5 H6)

noncomputable def f17G (S : Seam (Value × Heap)) (C : CallF) (n : Nat) (P0 : Env → Heap → Option (Value × Heap)) (x0 : Value) (H : Heap) : Option (Value × Heap) :=
 S.b (up (lenS x0) H) fun y69 H70 =>
 S.b (up (binB Tryd.prog .gtr 3 y69 (.int .i64 8192)) H70) fun y71 H72 =>
 S.i y71
 (some (.tuple #[(.slice none 0 0), (.int .i64 0), (.int .i64 5)], H72))
 (S.b (C 32 [x0, (.string ⟨#[32, 9, 10, 13]⟩)] H72) fun y73 H74 =>
  P0 (putE 58 (putE 58 (putE 58 (putE 58 (putE 58 (putE 58 (putE 58 (putE 58 (putE 58 (env0 [x0]) (some 2) (.slice none 0 0)) (some 3) (.int .i64 0)) (some 4) (.int .i64 0)) (some 9) x0) (some 10) y69) (some 11) y71) (some 12) x0) (some 13) y73) (some 5) y73) H74)

theorem f17_main (S : Seam (Value × Heap)) (C : CallF) (n : Nat) (x0 : Value) (H : Heap) : acodeK S Tryd.prog C n 58 f17_c (env0 [x0]) H (fin Tryd.prog Tryd.f17) = f17 S C n x0 H := by
  have h1 : acodeK S Tryd.prog C n 58 f17_c (env0 [x0]) H (fin Tryd.prog Tryd.f17) = f17G S C n (fun env H => aloopK (acodeK S Tryd.prog C n 58 (cAt f17_c [1, 1, 0, 1, 0, 0])) n env H (kAt S Tryd.prog C n 58 f17_c [1, 1, 0, 1, 0] (fin Tryd.prog Tryd.f17))) x0 H := by kernel_rfl
  have e0 : (fun env H => aloopK (acodeK S Tryd.prog C n 58 (cAt f17_c [1, 1, 0, 1, 0, 0])) n env H (kAt S Tryd.prog C n 58 f17_c [1, 1, 0, 1, 0] (fin Tryd.prog Tryd.f17))) = (fun env H => f17_L0 S C n n (env 0) (env 2) (env 5) H) := by funext env H; exact f17_L0_eq S C n n env H
  rw [e0] at h1
  exact h1.trans (by kernel_rfl)


theorem f17_eq {E : Ext} (hE : E 17 = none) (n : Nat) (x0 : Value) (H : Heap) : acall Tryd.prog true E (n + 1) 17 [x0] H = f17 real (acall Tryd.prog true E n) n x0 H :=
  (acall_eq (N := 58) Tryd.func17 (by kernel_rfl) (by kernel_rfl) hE (by kernel_rfl) (by kernel_rfl)).trans (f17_main real _ n x0 H)

/-! (*incunable/gram.reader).line -/
noncomputable def f18_c : Code := (Tryd.f18.body).getD .skip

noncomputable def f18_J1 (S : Seam (Value × Heap)) (C : CallF) (n : Nat) (y80 : Value) (H81 : Heap) : Option (Value × Heap) :=
 S.b (C 35 [y80, (.int .i64 4), (.string ⟨#[59]⟩)] H81) fun y82 H83 =>
 some (.tuple #[], H83)

noncomputable def f18_J2 (S : Seam (Value × Heap)) (C : CallF) (n : Nat) (y99 y100 y101 : Value) (H102 : Heap) : Option (Value × Heap) :=
 S.b (C 35 [y99, (.int .i64 1), (.string ⟨#[]⟩)] H102) fun y103 H104 =>
 S.b (bld [(.string ⟨#[]⟩), (.string ⟨#[]⟩), (.bool false)] [(0, 1, y103), (2, 1, y101)] H104) fun y105 H106 =>
 S.b (newV [(.string ⟨#[]⟩), (.string ⟨#[]⟩), (.bool false)] H106) fun y107 H108 =>
 S.b (stV 3 y107 y105 H108) fun _ H109 =>
 S.b (C 35 [y99, (.int .i64 4), (.string ⟨#[61]⟩)] H109) fun y110 H111 =>
 S.b (C 35 [y99, (.int .i64 3), (.string ⟨#[]⟩)] H111) fun y112 H113 =>
 S.b (up (fAddr 1 y107) H113) fun y114 H115 =>
 S.b (stV 1 y114 y112 H115) fun _ H116 =>
 S.b (nilC y100 H116) fun y117 H118 =>
 S.b (up (fAddr 2 y117) H118) fun y119 H120 =>
 S.c true (S.b (ldC y119 H120) fun y121 H122 =>
 S.c true (S.b (ldA 3 y107 H122) fun y123 H124 =>
 S.b (bldS 3 1 [(.string ⟨#[]⟩), (.string ⟨#[]⟩), (.bool false)] [(0, 3, y123)] H124) fun y125 H126 =>
 S.b (app 3 40 y121 y125 H126) fun y127 H128 =>
 S.c true (S.b (nilC y100 H128) fun y129 H130 =>
  S.b (up (fAddr 2 y129) H130) fun y131 H132 =>
  S.b (stV 1 y131 y127 H132) fun _ H133 =>
  S.c true (f18_J1 S C n y99 H133))))

noncomputable def f18 (S : Seam (Value × Heap)) (C : CallF) (n : Nat) (x0 : Value) (x1 : Value) (H : Heap) : Option (Value × Heap) :=
 S.b (nilC x0 H) fun y1 H2 =>
 S.b (up (fAddr 1 y1) H2) fun y3 H4 =>
 S.b (ldC y3 H4) fun y5 H6 =>
 S.b (up (iAddrS 3 y5 (.int .i64 0)) H6) fun y7 H8 =>
 S.b (up (fAddr 0 y7) H8) fun y9 H10 =>
 S.b (ldC y9 H10) fun y11 H12 =>
 S.b (up (binB Tryd.prog .lss 3 y11 (.int .i64 5)) H12) fun y13 H14 =>
 S.b (gd (wd y13 false) (some (y11, H14)) H14) fun y15 H16 =>
 S.b (gd (wd y13 false) (up (binB Tryd.prog .eql 3 y15 (.int .i64 13)) H16) H16) fun y17 H18 =>
 S.b (pickV y13 (.bool true) y17 H18) fun y19 H20 =>
 S.b (gd (wd y19 false) (some (y11, H20)) H20) fun y21 H22 =>
 S.b (gd (wd y19 false) (up (binB Tryd.prog .eql 3 y21 (.int .i64 6)) H22) H22) fun y23 H24 =>
 S.b (gd (wd y19 false) (some (y23, H24)) H24) fun y25 H26 =>
 S.b (gd (wd y25 true) (some (x1, H26)) H26) fun y27 H28 =>
 S.b (gd (wd y25 true) (nilC y27 H28) H28) fun y29 H30 =>
 S.b (gd (wd y25 true) (up (fAddr 1 y29) H30) H30) fun y31 H32 =>
 S.b (gd (wd y25 true) (ldC y31 H32) H32) fun y33 H34 =>
 S.b (gd (wd y25 true) (up (binB Tryd.prog .neq 9 y33 (.string ⟨#[]⟩)) H34) H34) fun y35 H36 =>
 S.b (gd (wd y19 false) (pickV y25 y35 (.bool false) H36) H36) fun y37 H38 =>
 S.b (pickV y19 (.bool true) y37 H38) fun y39 H40 =>
 S.i y39
 (S.b (nilC x0 H40) fun y41 H42 =>
  S.b (up (fAddr 2 y41) H42) fun y43 H44 =>
  S.b (stV 1 y43 (.bool true) H44) fun _ H45 =>
  some (.tuple #[], H45))
 (S.b (nilC x0 H40) fun y46 H47 =>
  S.b (up (fAddr 1 y46) H47) fun y48 H49 =>
  S.b (ldC y48 H49) fun y50 H51 =>
  S.b (up (slcS 3 y50 (some (.int .i64 1)) none none) H51) fun y52 H53 =>
  S.b (nilC x0 H53) fun y54 H55 =>
  S.b (up (fAddr 1 y54) H55) fun y56 H57 =>
  S.b (stV 1 y56 y52 H57) fun _ H58 =>
  S.b (up (binB Tryd.prog .eql 3 y11 (.int .i64 5)) H58) fun y59 H60 =>
  S.i y59
  (S.b (nilC x1 H60) fun y61 H62 =>
   S.b (up (fAddr 0 y61) H62) fun y63 H64 =>
   S.c true (S.b (ldC y63 H64) fun y65 H66 =>
   S.b (C 35 [x0, (.int .i64 2), (.string ⟨#[]⟩)] H66) fun y67 H68 =>
   S.c (sameBlk H66 H68 (blkOf y63) && true) (S.b (bldS 1 1 [(.string ⟨#[]⟩)] [(0, 1, y67)] H68) fun y69 H70 =>
    S.b (app 1 16 y65 y69 H70) fun y71 H72 =>
    S.c true (S.b (nilC x1 H72) fun y73 H74 =>
     S.b (up (fAddr 0 y73) H74) fun y75 H76 =>
     S.b (stV 1 y75 y71 H76) fun _ H77 =>
     S.c true (f18_J1 S C n x0 H77)))))
  (S.b (up (binB Tryd.prog .eql 3 y11 (.int .i64 6)) H60) fun y84 H85 =>
   S.i y84
   (S.b (C 35 [x0, (.int .i64 1), (.string ⟨#[]⟩)] H85) fun y86 H87 =>
    S.b (nilC x1 H87) fun y88 H89 =>
    S.b (up (fAddr 1 y88) H89) fun y90 H91 =>
    S.b (stV 1 y90 y86 H91) fun _ H92 =>
    f18_J1 S C n x0 H92)
   (S.b (up (binB Tryd.prog .eql 3 y11 (.int .i64 8)) H85) fun y93 H94 =>
    S.i y93
    (f18_J2 S C n x0 x1 (.bool true) H94)
    (S.b (up (binB Tryd.prog .eql 3 y11 (.int .i64 7)) H94) fun y134 H135 =>
     S.i y134
     (f18_J2 S C n x0 x1 (.bool false) H135)
     (S.b (up (binB Tryd.prog .eql 3 y11 (.int .i64 12)) H135) fun y136 H137 =>
      S.i y136
      (S.b (nilC x1 H137) fun y138 H139 =>
       S.b (up (fAddr 4 y138) H139) fun y140 H141 =>
       S.c true (S.b (ldC y140 H141) fun y142 H143 =>
       S.b (C 36 [x0] H143) fun y144 H145 =>
       S.c (sameBlk H143 H145 (blkOf y140) && true) (S.b (bldS 2 1 [(.string ⟨#[]⟩), (.slice none 0 0)] [(0, 2, y144)] H145) fun y146 H147 =>
        S.b (app 2 40 y142 y146 H147) fun y148 H149 =>
        S.c true (S.b (nilC x1 H149) fun y150 H151 =>
         S.b (up (fAddr 4 y150) H151) fun y152 H153 =>
         S.b (stV 1 y152 y148 H153) fun _ H154 =>
         S.c true (f18_J1 S C n x0 H154)))))
      (S.b (C 35 [x0, (.int .i64 1), (.string ⟨#[]⟩)] H137) fun y155 H156 =>
       S.b (nilC x1 H156) fun y157 H158 =>
       S.b (up (fAddr 3 y157) H158) fun y159 H160 =>
       S.c true (S.b (ldC y159 H160) fun y161 H162 =>
       S.b (up (binB Tryd.prog .sub 3 y11 (.int .i64 9)) H162) fun y163 H164 =>
       S.b (up (binB Tryd.prog .add 3 y163 (.int .i64 1)) H164) fun y165 H166 =>
       S.b (bldS 1 1 [(.string ⟨#[]⟩)] [(0, 1, y155)] H166) fun y167 H168 =>
       S.b (C 37 [x0] H168) fun y169 H170 =>
       S.c (sameBlk H168 H170 (some H166.n) && (sameBlk H168 H170 (blkOf y159) && true)) (S.b (app 1 16 y167 y169 H170) fun y171 H172 =>
        S.c (sameBlk H170 H172 (blkOf y159) && true) (S.b (bld [(.int .i64 0), (.slice none 0 0)] [(0, 1, y165), (1, 1, y171)] H172) fun y173 H174 =>
         S.b (bldS 2 1 [(.int .i64 0), (.slice none 0 0)] [(0, 2, y173)] H174) fun y175 H176 =>
         S.b (app 2 32 y161 y175 H176) fun y177 H178 =>
         S.c true (S.b (nilC x1 H178) fun y179 H180 =>
          S.b (up (fAddr 3 y179) H180) fun y181 H182 =>
          S.b (stV 1 y181 y177 H182) fun _ H183 =>
          S.c true (f18_J1 S C n x0 H183)))))))))))

theorem f18_main (S : Seam (Value × Heap)) (C : CallF) (n : Nat) (x0 : Value) (x1 : Value) (H : Heap) : acodeK S Tryd.prog C n 122 f18_c (env0 [x0, x1]) H (fin Tryd.prog Tryd.f18) = f18 S C n x0 x1 H := by
  kernel_rfl


theorem f18_eq {E : Ext} (hE : E 18 = none) (n : Nat) (x0 : Value) (x1 : Value) (H : Heap) : acall Tryd.prog true E (n + 1) 18 [x0, x1] H = f18 real (acall Tryd.prog true E n) n x0 x1 H :=
  (acall_eq (N := 122) Tryd.func18 (by kernel_rfl) (by kernel_rfl) hE (by kernel_rfl) (by kernel_rfl)).trans (f18_main real _ n x0 x1 H)

/-! incunable/incunableref14.Cut -/
noncomputable def f19_c : Code := (Tryd.f19.body).getD .skip

noncomputable def f19_L1 (S : Seam (Value × Heap)) (C : CallF) (n : Nat) (R0 : Value→Value→Value→Heap→Option (Value × Heap)) : Nat → Value → Value → Value → Heap → Option (Value × Heap)
 | 0, _, _, _, _ => none
 | m + 1, y45, y46, y47, H48 =>
   S.b (up (lenS y45) H48) fun y49 H50 =>
   S.b (up (binB Tryd.prog .lss 3 y47 y49) H50) fun y51 H52 =>
   S.b (gd (wd y51 true) (some (y45, H52)) H52) fun y53 H54 =>
   S.b (gd (wd y51 true) (some (y47, H54)) H54) fun y55 H56 =>
   S.b (gd (wd y51 true) (up (iAddrS 1 y53 y55) H56) H56) fun y57 H58 =>
   S.b (gd (wd y51 true) (ldC y57 H58) H58) fun y59 H60 =>
   S.b (gd (wd y51 true) (up (binB Tryd.prog .neq 5 y59 (.int .u8 10)) H60) H60) fun y61 H62 =>
   S.b (pickV y51 y61 (.bool false) H62) fun y63 H64 =>
   S.i y63
   (S.b (up (binB Tryd.prog .add 3 y47 (.int .i64 1)) H64) fun y65 H66 =>
    f19_L1 S C n R0 m y45 y46 y65 H66)
   (R0 y45 y46 y47 H64)

theorem f19_L1_eq (S : Seam (Value × Heap)) (C : CallF) (n : Nat) (R0 : Value→Value→Value→Heap→Option (Value × Heap)) : ∀ (m : Nat) (env : Env) (H : Heap), aloopK (acodeK S Tryd.prog C n 65 (cAt f19_c [1, 1, 1, 1, 0, 0, 0, 1, 0, 1, 1, 0, 1, 0, 0, 0, 0])) m env H (kAt S Tryd.prog C n 65 (cAt f19_c [1, 1, 1, 1, 0, 0, 0]) [1, 0, 1, 1, 0, 1, 0, 0, 0] (onNormal (fun env' H' => R0 (env' 0) (env' 5) (env' 6) H') (kAt S Tryd.prog C n 65 f19_c [1, 1, 1, 1, 0, 0] (fin Tryd.prog Tryd.f19)))) = f19_L1 S C n R0 m (env 0) (env 5) (env 6) H := by
  intro m env H
  refine aloopK_eq (L := fun m env H => f19_L1 S C n R0 m (env 0) (env 5) (env 6) H) (fun env H => rfl) (fun m env H => ?_) m env H
  kernel_rfl


noncomputable def f19_L0 (S : Seam (Value × Heap)) (C : CallF) (n : Nat) : Nat → Value → Value → Value → Heap → Option (Value × Heap)
 | 0, _, _, _, _ => none
 | m + 1, y5, y6, y7, H8 =>
   S.b (up (lenS y5) H8) fun y9 H10 =>
   S.b (up (binB Tryd.prog .lss 3 y7 y9) H10) fun y11 H12 =>
   S.i y11
   (S.b (up (iAddrS 1 y5 y7) H12) fun y13 H14 =>
    S.b (ldC y13 H14) fun y15 H16 =>
    S.b (up (binB Tryd.prog .eql 5 y15 (.int .u8 32)) H16) fun y17 H18 =>
    S.b (gd (wd y17 false) (some (y15, H18)) H18) fun y19 H20 =>
    S.b (gd (wd y17 false) (up (binB Tryd.prog .eql 5 y19 (.int .u8 9)) H20) H20) fun y21 H22 =>
    S.b (pickV y17 (.bool true) y21 H22) fun y23 H24 =>
    S.b (gd (wd y23 false) (some (y15, H24)) H24) fun y25 H26 =>
    S.b (gd (wd y23 false) (up (binB Tryd.prog .eql 5 y25 (.int .u8 10)) H26) H26) fun y27 H28 =>
    S.b (pickV y23 (.bool true) y27 H28) fun y29 H30 =>
    S.b (gd (wd y29 false) (some (y15, H30)) H30) fun y31 H32 =>
    S.b (gd (wd y29 false) (up (binB Tryd.prog .eql 5 y31 (.int .u8 13)) H32) H32) fun y33 H34 =>
    S.b (pickV y29 (.bool true) y33 H34) fun y35 H36 =>
    S.i y35
    (S.b (up (binB Tryd.prog .add 3 y7 (.int .i64 1)) H36) fun y37 H38 =>
     f19_L0 S C n m y5 y6 y37 H38)
    (S.b (up (binB Tryd.prog .eql 5 y15 (.int .u8 35)) H36) fun y43 H44 =>
     S.i y43
     (f19_L1 S C n (f19_L0 S C n m) n y5 y6 y7 H44)
     (S.b (C 38 [y5, y7] H44) fun y67 H68 =>
      S.b (newV [(.int .i64 0), (.int .i64 0), (.int .i64 0)] H68) fun y69 H70 =>
      S.b (stV 3 y69 y67 H70) fun _ H71 =>
      S.b (up (fAddr 0 y69) H71) fun y72 H73 =>
      S.b (ldC y72 H73) fun y74 H75 =>
      S.b (up (binB Tryd.prog .eql 3 y74 (.int .i64 0)) H75) fun y76 H77 =>
      S.i y76
      (some (.tuple #[(.slice none 0 0), y7, (.int .i64 140)], H77))
      (S.b (ldA 3 y69 H77) fun y78 H79 =>
       S.b (bldS 3 1 [(.int .i64 0), (.int .i64 0), (.int .i64 0)] [(0, 3, y78)] H79) fun y80 H81 =>
       S.b (app 3 24 y6 y80 H81) fun y82 H83 =>
       S.b (up (fAddr 2 y69) H83) fun y84 H85 =>
       S.b (ldC y84 H85) fun y86 H87 =>
       f19_L0 S C n m y5 y82 y86 H87))))
   (some (.tuple #[y6, (.int .i64 0), (.int .i64 0)], H12))

noncomputable def f19_L0G (S : Seam (Value × Heap)) (C : CallF) (n : Nat) (R0 : Value→Value→Value→Heap→Option (Value × Heap)) (P1 : Env → Heap → Option (Value × Heap)) (env : Env) (H : Heap) : Option (Value × Heap) :=
 S.b (up (lenS (env 0)) H) fun y88 H89 =>
 S.b (up (binB Tryd.prog .lss 3 (env 6) y88) H89) fun y90 H91 =>
 S.i y90
 (S.b (up (iAddrS 1 (env 0) (env 6)) H91) fun y92 H93 =>
  S.b (ldC y92 H93) fun y94 H95 =>
  S.b (up (binB Tryd.prog .eql 5 y94 (.int .u8 32)) H95) fun y96 H97 =>
  S.b (gd (wd y96 false) (some (y94, H97)) H97) fun y98 H99 =>
  S.b (gd (wd y96 false) (up (binB Tryd.prog .eql 5 y98 (.int .u8 9)) H99) H99) fun y100 H101 =>
  S.b (pickV y96 (.bool true) y100 H101) fun y102 H103 =>
  S.b (gd (wd y102 false) (some (y94, H103)) H103) fun y104 H105 =>
  S.b (gd (wd y102 false) (up (binB Tryd.prog .eql 5 y104 (.int .u8 10)) H105) H105) fun y106 H107 =>
  S.b (pickV y102 (.bool true) y106 H107) fun y108 H109 =>
  S.b (gd (wd y108 false) (some (y94, H109)) H109) fun y110 H111 =>
  S.b (gd (wd y108 false) (up (binB Tryd.prog .eql 5 y110 (.int .u8 13)) H111) H111) fun y112 H113 =>
  S.b (pickV y108 (.bool true) y112 H113) fun y114 H115 =>
  S.i y114
  (S.b (up (binB Tryd.prog .add 3 (env 6) (.int .i64 1)) H115) fun y116 H117 =>
   R0 (env 0) (env 5) y116 H117)
  (S.b (up (binB Tryd.prog .eql 5 y94 (.int .u8 35)) H115) fun y118 H119 =>
   S.i y118
   (P1 (putE 65 (putE 65 (putE 65 (putE 65 (putE 65 (putE 65 (putE 65 (putE 65 (putE 65 (putE 65 (putE 65 (putE 65 (putE 65 (putE 65 (putE 65 (putE 65 (putE 65 (putE 65 (putE 65 (putE 65 (putE 65 (putE 65 (putE 65 (putE 65 (putE 65 env (some 12) (env 6)) (some 13) (env 0)) (some 14) y88) (some 15) y90) (some 16) (env 0)) (some 17) (env 6)) (some 18) y92) (some 19) y94) (some 7) y94) (some 20) y94) (some 21) y96) (some 22) y96) (some 23) y98) (some 24) y100) (some 25) y102) (some 26) y102) (some 27) y104) (some 28) y106) (some 29) y108) (some 30) y108) (some 31) y110) (some 32) y112) (some 33) y114) (some 36) y94) (some 37) y118) H119)
   (S.b (C 38 [(env 0), (env 6)] H119) fun y120 H121 =>
    S.b (newV [(.int .i64 0), (.int .i64 0), (.int .i64 0)] H121) fun y122 H123 =>
    S.b (stV 3 y122 y120 H123) fun u124 H125 =>
    S.b (up (fAddr 0 y122) H125) fun y126 H127 =>
    S.b (ldC y126 H127) fun y128 H129 =>
    S.b (up (binB Tryd.prog .eql 3 y128 (.int .i64 0)) H129) fun y130 H131 =>
    S.i y130
    (some (.tuple #[(.slice none 0 0), (env 6), (.int .i64 140)], H131))
    (S.b (ldA 3 y122 H131) fun y132 H133 =>
     S.b (bldS 3 1 [(.int .i64 0), (.int .i64 0), (.int .i64 0)] [(0, 3, y132)] H133) fun y134 H135 =>
     S.b (app 3 24 (env 5) y134 H135) fun y136 H137 =>
     S.b (up (fAddr 2 y122) H137) fun y138 H139 =>
     S.b (ldC y138 H139) fun y140 H141 =>
     R0 (env 0) y136 y140 H141))))
 (some (.tuple #[(env 5), (.int .i64 0), (.int .i64 0)], H91))

theorem f19_L0_eq (S : Seam (Value × Heap)) (C : CallF) (n : Nat) : ∀ (m : Nat) (env : Env) (H : Heap), aloopK (acodeK S Tryd.prog C n 65 (cAt f19_c [1, 1, 1, 1, 0, 0, 0])) m env H (kAt S Tryd.prog C n 65 f19_c [1, 1, 1, 1, 0, 0] (fin Tryd.prog Tryd.f19)) = f19_L0 S C n m (env 0) (env 5) (env 6) H := by
  intro m env H
  refine aloopK_eq (L := fun m env H => f19_L0 S C n m (env 0) (env 5) (env 6) H) (fun env H => rfl) (fun m env H => ?_) m env H
  have h1 : acodeK S Tryd.prog C n 65 (cAt f19_c [1, 1, 1, 1, 0, 0, 0]) env H (onNormal (fun env' H' => f19_L0 S C n m (env' 0) (env' 5) (env' 6) H') (kAt S Tryd.prog C n 65 f19_c [1, 1, 1, 1, 0, 0] (fin Tryd.prog Tryd.f19))) = f19_L0G S C n (f19_L0 S C n m) (fun env H => aloopK (acodeK S Tryd.prog C n 65 (cAt f19_c [1, 1, 1, 1, 0, 0, 0, 1, 0, 1, 1, 0, 1, 0, 0, 0, 0])) n env H (kAt S Tryd.prog C n 65 (cAt f19_c [1, 1, 1, 1, 0, 0, 0]) [1, 0, 1, 1, 0, 1, 0, 0, 0] (onNormal (fun env' H' => (f19_L0 S C n m) (env' 0) (env' 5) (env' 6) H') (kAt S Tryd.prog C n 65 f19_c [1, 1, 1, 1, 0, 0] (fin Tryd.prog Tryd.f19))))) env H := by kernel_rfl
  have e0 : (fun env H => aloopK (acodeK S Tryd.prog C n 65 (cAt f19_c [1, 1, 1, 1, 0, 0, 0, 1, 0, 1, 1, 0, 1, 0, 0, 0, 0])) n env H (kAt S Tryd.prog C n 65 (cAt f19_c [1, 1, 1, 1, 0, 0, 0]) [1, 0, 1, 1, 0, 1, 0, 0, 0] (onNormal (fun env' H' => (f19_L0 S C n m) (env' 0) (env' 5) (env' 6) H') (kAt S Tryd.prog C n 65 f19_c [1, 1, 1, 1, 0, 0] (fin Tryd.prog Tryd.f19))))) = (fun env H => f19_L1 S C n (f19_L0 S C n m) n (env 0) (env 5) (env 6) H) := by funext env H; exact f19_L1_eq S C n (f19_L0 S C n m) n env H
  rw [e0] at h1
  exact h1.trans (by kernel_rfl)


noncomputable def f19 (S : Seam (Value × Heap)) (C : CallF) (n : Nat) (x0 : Value) (H : Heap) : Option (Value × Heap) :=
 S.b (up (lenS x0) H) fun y1 H2 =>
 S.b (up (binB Tryd.prog .gtr 3 y1 (.int .i64 8192)) H2) fun y3 H4 =>
 S.i y3
 (some (.tuple #[(.slice none 0 0), (.int .i64 0), (.int .i64 5)], H4))
 (f19_L0 S C n n x0 (.slice none 0 0) (.int .i64 0) H4)

noncomputable def f19G (S : Seam (Value × Heap)) (C : CallF) (n : Nat) (P0 : Env → Heap → Option (Value × Heap)) (x0 : Value) (H : Heap) : Option (Value × Heap) :=
 S.b (up (lenS x0) H) fun y142 H143 =>
 S.b (up (binB Tryd.prog .gtr 3 y142 (.int .i64 8192)) H143) fun y144 H145 =>
 S.i y144
 (some (.tuple #[(.slice none 0 0), (.int .i64 0), (.int .i64 5)], H145))
 (P0 (putE 65 (putE 65 (putE 65 (putE 65 (putE 65 (putE 65 (putE 65 (putE 65 (env0 [x0]) (some 2) (.slice none 0 0)) (some 3) (.int .i64 0)) (some 4) (.int .i64 0)) (some 9) x0) (some 10) y142) (some 11) y144) (some 5) (.slice none 0 0)) (some 6) (.int .i64 0)) H145)

theorem f19_main (S : Seam (Value × Heap)) (C : CallF) (n : Nat) (x0 : Value) (H : Heap) : acodeK S Tryd.prog C n 65 f19_c (env0 [x0]) H (fin Tryd.prog Tryd.f19) = f19 S C n x0 H := by
  have h1 : acodeK S Tryd.prog C n 65 f19_c (env0 [x0]) H (fin Tryd.prog Tryd.f19) = f19G S C n (fun env H => aloopK (acodeK S Tryd.prog C n 65 (cAt f19_c [1, 1, 1, 1, 0, 0, 0])) n env H (kAt S Tryd.prog C n 65 f19_c [1, 1, 1, 1, 0, 0] (fin Tryd.prog Tryd.f19))) x0 H := by kernel_rfl
  have e0 : (fun env H => aloopK (acodeK S Tryd.prog C n 65 (cAt f19_c [1, 1, 1, 1, 0, 0, 0])) n env H (kAt S Tryd.prog C n 65 f19_c [1, 1, 1, 1, 0, 0] (fin Tryd.prog Tryd.f19))) = (fun env H => f19_L0 S C n n (env 0) (env 5) (env 6) H) := by funext env H; exact f19_L0_eq S C n n env H
  rw [e0] at h1
  exact h1.trans (by kernel_rfl)


theorem f19_eq {E : Ext} (hE : E 19 = none) (n : Nat) (x0 : Value) (H : Heap) : acall Tryd.prog true E (n + 1) 19 [x0] H = f19 real (acall Tryd.prog true E n) n x0 H :=
  (acall_eq (N := 65) Tryd.func19 (by kernel_rfl) (by kernel_rfl) hE (by kernel_rfl) (by kernel_rfl)).trans (f19_main real _ n x0 H)

/-! (*incunable/incunableref15.reader).line -/
noncomputable def f20_c : Code := (Tryd.f20.body).getD .skip

noncomputable def f20_J1 (S : Seam (Value × Heap)) (C : CallF) (n : Nat) (y42 : Value) (H43 : Heap) : Option (Value × Heap) :=
 S.b (C 39 [y42, (.int .i64 4), (.string ⟨#[59]⟩)] H43) fun y44 H45 =>
 some (.tuple #[], H45)

noncomputable def f20_J2 (S : Seam (Value × Heap)) (C : CallF) (n : Nat) (y96 y97 y98 y99 : Value) (H100 : Heap) : Option (Value × Heap) :=
 S.i y99
 (S.b (nilC y97 H100) fun y101 H102 =>
  S.b (up (fAddr 3 y101) H102) fun y103 H104 =>
  S.c true (S.b (ldC y103 H104) fun y105 H106 =>
  S.b (C 41 [y96] H106) fun y107 H108 =>
  S.c (sameBlk H106 H108 (blkOf y103) && true) (S.b (bldS 2 1 [(.int .i64 0), (.slice none 0 0)] [(0, 2, y107)] H108) fun y109 H110 =>
   S.b (app 2 32 y105 y109 H110) fun y111 H112 =>
   S.c true (S.b (nilC y97 H112) fun y113 H114 =>
    S.b (up (fAddr 3 y113) H114) fun y115 H116 =>
    S.b (stV 1 y115 y111 H116) fun _ H117 =>
    S.c true (f20_J1 S C n y96 H117)))))
 (S.b (up (binB Tryd.prog .eql 3 y98 (.int .i64 12)) H100) fun y118 H119 =>
  S.i y118
  (S.b (nilC y97 H119) fun y120 H121 =>
   S.b (up (fAddr 4 y120) H121) fun y122 H123 =>
   S.c true (S.b (ldC y122 H123) fun y124 H125 =>
   S.b (C 42 [y96] H125) fun y126 H127 =>
   S.c (sameBlk H125 H127 (blkOf y122) && true) (S.b (bldS 2 1 [(.string ⟨#[]⟩), (.slice none 0 0)] [(0, 2, y126)] H127) fun y128 H129 =>
    S.b (app 2 40 y124 y128 H129) fun y130 H131 =>
    S.c true (S.b (nilC y97 H131) fun y132 H133 =>
     S.b (up (fAddr 4 y132) H133) fun y134 H135 =>
     S.b (stV 1 y134 y130 H135) fun _ H136 =>
     S.c true (f20_J1 S C n y96 H136)))))
  (S.b (nilC y96 H119) fun y137 H138 =>
   S.b (up (fAddr 3 y137) H138) fun y139 H140 =>
   S.b (stV 1 y139 (.bool true) H140) fun _ H141 =>
   some (.tuple #[], H141)))

noncomputable def f20_J3 (S : Seam (Value × Heap)) (C : CallF) (n : Nat) (y72 y73 y74 y75 : Value) (H76 : Heap) : Option (Value × Heap) :=
 S.i y75
 (S.b (nilC y73 H76) fun y77 H78 =>
  S.b (up (fAddr 2 y77) H78) fun y79 H80 =>
  S.c true (S.b (ldC y79 H80) fun y81 H82 =>
  S.b (C 40 [y72] H82) fun y83 H84 =>
  S.c (sameBlk H82 H84 (blkOf y79) && true) (S.b (bldS 3 1 [(.string ⟨#[]⟩), (.string ⟨#[]⟩), (.bool false)] [(0, 3, y83)] H84) fun y85 H86 =>
   S.b (app 3 40 y81 y85 H86) fun y87 H88 =>
   S.c true (S.b (nilC y73 H88) fun y89 H90 =>
    S.b (up (fAddr 2 y89) H90) fun y91 H92 =>
    S.b (stV 1 y91 y87 H92) fun _ H93 =>
    S.c true (f20_J1 S C n y72 H93)))))
 (S.b (up (binB Tryd.prog .eql 3 y74 (.int .i64 9)) H76) fun y94 H95 =>
  S.i y94
  (f20_J2 S C n y72 y73 y74 y94 H95)
  (S.b (up (binB Tryd.prog .eql 3 y74 (.int .i64 10)) H95) fun y142 H143 =>
   S.i y142
   (f20_J2 S C n y72 y73 y74 y142 H143)
   (S.b (up (binB Tryd.prog .eql 3 y74 (.int .i64 11)) H143) fun y144 H145 =>
    f20_J2 S C n y72 y73 y74 y144 H145)))

noncomputable def f20 (S : Seam (Value × Heap)) (C : CallF) (n : Nat) (x0 : Value) (x1 : Value) (H : Heap) : Option (Value × Heap) :=
 S.b (nilC x0 H) fun y1 H2 =>
 S.b (up (fAddr 1 y1) H2) fun y3 H4 =>
 S.c true (S.b (ldC y3 H4) fun y5 H6 =>
 S.b (nilC x0 H6) fun y7 H8 =>
 S.b (up (fAddr 2 y7) H8) fun y9 H10 =>
 S.c true (S.b (ldC y9 H10) fun y11 H12 =>
 S.b (up (iAddrS 3 y5 y11) H12) fun y13 H14 =>
 S.b (up (fAddr 0 y13) H14) fun y15 H16 =>
 S.c true (S.b (ldC y15 H16) fun y17 H18 =>
 S.b (up (binB Tryd.prog .eql 3 y17 (.int .i64 5)) H18) fun y19 H20 =>
 S.i y19
 (S.b (C 39 [x0, (.int .i64 5), (.string ⟨#[]⟩)] H20) fun y21 H22 =>
  S.b (nilC x1 H22) fun y23 H24 =>
  S.b (up (fAddr 0 y23) H24) fun y25 H26 =>
  S.c true (S.b (ldC y25 H26) fun y27 H28 =>
  S.b (C 39 [x0, (.int .i64 2), (.string ⟨#[]⟩)] H28) fun y29 H30 =>
  S.c (sameBlk H28 H30 (blkOf y25) && true) (S.b (bldS 1 1 [(.string ⟨#[]⟩)] [(0, 1, y29)] H30) fun y31 H32 =>
   S.b (app 1 16 y27 y31 H32) fun y33 H34 =>
   S.c true (S.b (nilC x1 H34) fun y35 H36 =>
    S.b (up (fAddr 0 y35) H36) fun y37 H38 =>
    S.b (stV 1 y37 y33 H38) fun _ H39 =>
    S.c true (f20_J1 S C n x0 H39)))))
 (S.b (up (binB Tryd.prog .eql 3 y17 (.int .i64 6)) H20) fun y46 H47 =>
  S.i y46
  (S.b (nilC x1 H47) fun y48 H49 =>
   S.b (up (fAddr 1 y48) H49) fun y50 H51 =>
   S.b (ldC y50 H51) fun y52 H53 =>
   S.b (up (binB Tryd.prog .neq 9 y52 (.string ⟨#[]⟩)) H53) fun y54 H55 =>
   S.i y54
   (S.b (nilC x0 H55) fun y56 H57 =>
    S.b (up (fAddr 3 y56) H57) fun y58 H59 =>
    S.b (stV 1 y58 (.bool true) H59) fun _ H60 =>
    some (.tuple #[], H60))
   (S.b (C 39 [x0, (.int .i64 6), (.string ⟨#[]⟩)] H55) fun y61 H62 =>
    S.b (C 39 [x0, (.int .i64 1), (.string ⟨#[]⟩)] H62) fun y63 H64 =>
    S.b (nilC x1 H64) fun y65 H66 =>
    S.b (up (fAddr 1 y65) H66) fun y67 H68 =>
    S.b (stV 1 y67 y63 H68) fun _ H69 =>
    f20_J1 S C n x0 H69))
  (S.b (up (binB Tryd.prog .eql 3 y17 (.int .i64 7)) H47) fun y70 H71 =>
   S.i y70
   (f20_J3 S C n x0 x1 y17 y70 H71)
   (S.b (up (binB Tryd.prog .eql 3 y17 (.int .i64 8)) H71) fun y146 H147 =>
    f20_J3 S C n x0 x1 y17 y146 H147))))))

theorem f20_main (S : Seam (Value × Heap)) (C : CallF) (n : Nat) (x0 : Value) (x1 : Value) (H : Heap) : acodeK S Tryd.prog C n 94 f20_c (env0 [x0, x1]) H (fin Tryd.prog Tryd.f20) = f20 S C n x0 x1 H := by
  kernel_rfl


theorem f20_eq {E : Ext} (hE : E 20 = none) (n : Nat) (x0 : Value) (x1 : Value) (H : Heap) : acall Tryd.prog true E (n + 1) 20 [x0, x1] H = f20 real (acall Tryd.prog true E n) n x0 x1 H :=
  (acall_eq (N := 94) Tryd.func20 (by kernel_rfl) (by kernel_rfl) hE (by kernel_rfl) (by kernel_rfl)).trans (f20_main real _ n x0 x1 H)

/-! incunable/incunableref15.texts -/
noncomputable def f21_c : Code := (Tryd.f21.body).getD .skip

noncomputable def f21_L0 (S : Seam (Value × Heap)) (C : CallF) (n : Nat) : Nat → Value → Value → Value → Heap → Option (Value × Heap)
 | 0, _, _, _, _ => none
 | m + 1, y7, y8, y9, H10 =>
   S.b (up (lenS y7) H10) fun y11 H12 =>
   S.b (up (binB Tryd.prog .lss 3 y9 y11) H12) fun y13 H14 =>
   S.i y13
   (S.b (up (iAddrS 1 y7 y9) H14) fun y15 H16 =>
    S.c true (S.b (ldC y15 H16) fun y17 H18 =>
    S.b (up (iAddrS 1 y8 y9) H18) fun y19 H20 =>
    S.c true (S.b (ldC y19 H20) fun y21 H22 =>
    S.b (up (binB Tryd.prog .neq 9 y17 y21) H22) fun y23 H24 =>
    S.i y23
    (some ((.bool false), H24))
    (S.b (up (binB Tryd.prog .add 3 y9 (.int .i64 1)) H24) fun y25 H26 =>
     f21_L0 S C n m y7 y8 y25 H26))))
   (some ((.bool true), H14))

theorem f21_L0_eq (S : Seam (Value × Heap)) (C : CallF) (n : Nat) : ∀ (m : Nat) (env : Env) (H : Heap), aloopK (acodeK S Tryd.prog C n 26 (cAt f21_c [1, 1, 0, 1, 0, 0])) m env H (kAt S Tryd.prog C n 26 f21_c [1, 1, 0, 1, 0] (fin Tryd.prog Tryd.f21)) = f21_L0 S C n m (env 0) (env 1) (env 5) H := by
  intro m env H
  refine aloopK_eq (L := fun m env H => f21_L0 S C n m (env 0) (env 1) (env 5) H) (fun env H => rfl) (fun m env H => ?_) m env H
  kernel_rfl


noncomputable def f21 (S : Seam (Value × Heap)) (C : CallF) (n : Nat) (x0 : Value) (x1 : Value) (H : Heap) : Option (Value × Heap) :=
 S.b (up (lenS x0) H) fun y1 H2 =>
 S.b (up (lenS x1) H2) fun y3 H4 =>
 S.b (up (binB Tryd.prog .neq 3 y1 y3) H4) fun y5 H6 =>
 S.i y5
 (some ((.bool false), H6))
 (f21_L0 S C n n x0 x1 (.int .i64 0) H6)

noncomputable def f21G (S : Seam (Value × Heap)) (C : CallF) (n : Nat) (P0 : Env → Heap → Option (Value × Heap)) (x0 : Value) (x1 : Value) (H : Heap) : Option (Value × Heap) :=
 S.b (up (lenS x0) H) fun y27 H28 =>
 S.b (up (lenS x1) H28) fun y29 H30 =>
 S.b (up (binB Tryd.prog .neq 3 y27 y29) H30) fun y31 H32 =>
 S.i y31
 (some ((.bool false), H32))
 (P0 (putE 26 (putE 26 (putE 26 (putE 26 (putE 26 (putE 26 (putE 26 (env0 [x0, x1]) (some 4) (.bool false)) (some 6) x0) (some 7) y27) (some 8) x1) (some 9) y29) (some 10) y31) (some 5) (.int .i64 0)) H32)

theorem f21_main (S : Seam (Value × Heap)) (C : CallF) (n : Nat) (x0 : Value) (x1 : Value) (H : Heap) : acodeK S Tryd.prog C n 26 f21_c (env0 [x0, x1]) H (fin Tryd.prog Tryd.f21) = f21 S C n x0 x1 H := by
  have h1 : acodeK S Tryd.prog C n 26 f21_c (env0 [x0, x1]) H (fin Tryd.prog Tryd.f21) = f21G S C n (fun env H => aloopK (acodeK S Tryd.prog C n 26 (cAt f21_c [1, 1, 0, 1, 0, 0])) n env H (kAt S Tryd.prog C n 26 f21_c [1, 1, 0, 1, 0] (fin Tryd.prog Tryd.f21))) x0 x1 H := by kernel_rfl
  have e0 : (fun env H => aloopK (acodeK S Tryd.prog C n 26 (cAt f21_c [1, 1, 0, 1, 0, 0])) n env H (kAt S Tryd.prog C n 26 f21_c [1, 1, 0, 1, 0] (fin Tryd.prog Tryd.f21))) = (fun env H => f21_L0 S C n n (env 0) (env 1) (env 5) H) := by funext env H; exact f21_L0_eq S C n n env H
  rw [e0] at h1
  exact h1.trans (by kernel_rfl)


theorem f21_eq {E : Ext} (hE : E 21 = none) (n : Nat) (x0 : Value) (x1 : Value) (H : Heap) : acall Tryd.prog true E (n + 1) 21 [x0, x1] H = f21 real (acall Tryd.prog true E n) n x0 x1 H :=
  (acall_eq (N := 26) Tryd.func21 (by kernel_rfl) (by kernel_rfl) hE (by kernel_rfl) (by kernel_rfl)).trans (f21_main real _ n x0 x1 H)

/-! incunable/incunableref15.ways -/
noncomputable def f22_c : Code := (Tryd.f22.body).getD .skip

noncomputable def f22_L0 (S : Seam (Value × Heap)) (C : CallF) (n : Nat) : Nat → Value → Value → Value → Heap → Option (Value × Heap)
 | 0, _, _, _, _ => none
 | m + 1, y7, y8, y9, H10 =>
   S.b (up (lenS y7) H10) fun y11 H12 =>
   S.b (up (binB Tryd.prog .lss 3 y9 y11) H12) fun y13 H14 =>
   S.i y13
   (S.b (up (iAddrS 2 y7 y9) H14) fun y15 H16 =>
    S.b (up (fAddr 1 y15) H16) fun y17 H18 =>
    S.c true (S.b (ldC y17 H18) fun y19 H20 =>
    S.b (up (iAddrS 2 y8 y9) H20) fun y21 H22 =>
    S.b (up (fAddr 1 y21) H22) fun y23 H24 =>
    S.c true (S.b (ldC y23 H24) fun y25 H26 =>
    S.b (up (binB Tryd.prog .neq 9 y19 y25) H26) fun y27 H28 =>
    S.b (gd (wd y27 false) (some (y7, H28)) H28) fun y29 H30 =>
    S.b (gd (wd y27 false) (some (y9, H30)) H30) fun y31 H32 =>
    S.b (gd (wd y27 false) (up (iAddrS 2 y29 y31) H32) H32) fun y33 H34 =>
    S.b (gd (wd y27 false) (up (fAddr 0 y33) H34) H34) fun y35 H36 =>
    S.c (!(wd y27 false) || true) (S.b (gd (wd y27 false) (ldC y35 H36) H36) fun y37 H38 =>
    S.b (gd (wd y27 false) (some (y8, H38)) H38) fun y39 H40 =>
    S.b (gd (wd y27 false) (some (y9, H40)) H40) fun y41 H42 =>
    S.b (gd (wd y27 false) (up (iAddrS 2 y39 y41) H42) H42) fun y43 H44 =>
    S.b (gd (wd y27 false) (up (fAddr 0 y43) H44) H44) fun y45 H46 =>
    S.c (!(wd y27 false) || true) (S.b (gd (wd y27 false) (ldC y45 H46) H46) fun y47 H48 =>
    S.b (gd (wd y27 false) (C 21 [y37, y47] H48) H48) fun y49 H50 =>
    S.c (!(wd y27 false) || true) (S.b (gd (wd y27 false) (up (unB .not y49) H50) H50) fun y51 H52 =>
     S.b (pickV y27 (.bool true) y51 H52) fun y53 H54 =>
     S.i y53
     (some ((.bool false), H54))
     (S.b (up (binB Tryd.prog .add 3 y9 (.int .i64 1)) H54) fun y55 H56 =>
      f22_L0 S C n m y7 y8 y55 H56)))))))
   (some ((.bool true), H14))

theorem f22_L0_eq (S : Seam (Value × Heap)) (C : CallF) (n : Nat) : ∀ (m : Nat) (env : Env) (H : Heap), aloopK (acodeK S Tryd.prog C n 42 (cAt f22_c [1, 1, 0, 1, 0, 0])) m env H (kAt S Tryd.prog C n 42 f22_c [1, 1, 0, 1, 0] (fin Tryd.prog Tryd.f22)) = f22_L0 S C n m (env 0) (env 1) (env 5) H := by
  intro m env H
  refine aloopK_eq (L := fun m env H => f22_L0 S C n m (env 0) (env 1) (env 5) H) (fun env H => rfl) (fun m env H => ?_) m env H
  kernel_rfl


noncomputable def f22 (S : Seam (Value × Heap)) (C : CallF) (n : Nat) (x0 : Value) (x1 : Value) (H : Heap) : Option (Value × Heap) :=
 S.b (up (lenS x0) H) fun y1 H2 =>
 S.b (up (lenS x1) H2) fun y3 H4 =>
 S.b (up (binB Tryd.prog .neq 3 y1 y3) H4) fun y5 H6 =>
 S.i y5
 (some ((.bool false), H6))
 (f22_L0 S C n n x0 x1 (.int .i64 0) H6)

noncomputable def f22G (S : Seam (Value × Heap)) (C : CallF) (n : Nat) (P0 : Env → Heap → Option (Value × Heap)) (x0 : Value) (x1 : Value) (H : Heap) : Option (Value × Heap) :=
 S.b (up (lenS x0) H) fun y57 H58 =>
 S.b (up (lenS x1) H58) fun y59 H60 =>
 S.b (up (binB Tryd.prog .neq 3 y57 y59) H60) fun y61 H62 =>
 S.i y61
 (some ((.bool false), H62))
 (P0 (putE 42 (putE 42 (putE 42 (putE 42 (putE 42 (putE 42 (putE 42 (env0 [x0, x1]) (some 4) (.bool false)) (some 6) x0) (some 7) y57) (some 8) x1) (some 9) y59) (some 10) y61) (some 5) (.int .i64 0)) H62)

theorem f22_main (S : Seam (Value × Heap)) (C : CallF) (n : Nat) (x0 : Value) (x1 : Value) (H : Heap) : acodeK S Tryd.prog C n 42 f22_c (env0 [x0, x1]) H (fin Tryd.prog Tryd.f22) = f22 S C n x0 x1 H := by
  have h1 : acodeK S Tryd.prog C n 42 f22_c (env0 [x0, x1]) H (fin Tryd.prog Tryd.f22) = f22G S C n (fun env H => aloopK (acodeK S Tryd.prog C n 42 (cAt f22_c [1, 1, 0, 1, 0, 0])) n env H (kAt S Tryd.prog C n 42 f22_c [1, 1, 0, 1, 0] (fin Tryd.prog Tryd.f22))) x0 x1 H := by kernel_rfl
  have e0 : (fun env H => aloopK (acodeK S Tryd.prog C n 42 (cAt f22_c [1, 1, 0, 1, 0, 0])) n env H (kAt S Tryd.prog C n 42 f22_c [1, 1, 0, 1, 0] (fin Tryd.prog Tryd.f22))) = (fun env H => f22_L0 S C n n (env 0) (env 1) (env 5) H) := by funext env H; exact f22_L0_eq S C n n env H
  rw [e0] at h1
  exact h1.trans (by kernel_rfl)


theorem f22_eq {E : Ext} (hE : E 22 = none) (n : Nat) (x0 : Value) (x1 : Value) (H : Heap) : acall Tryd.prog true E (n + 1) 22 [x0, x1] H = f22 real (acall Tryd.prog true E n) n x0 x1 H :=
  (acall_eq (N := 42) Tryd.func22 (by kernel_rfl) (by kernel_rfl) hE (by kernel_rfl) (by kernel_rfl)).trans (f22_main real _ n x0 x1 H)

/-! incunable/incunablelaw15.refuses -/
noncomputable def f23_c : Code := (Tryd.f23.body).getD .skip

noncomputable def f23 (S : Seam (Value × Heap)) (C : CallF) (n : Nat) (x0 : Value) (x1 : Value) (H : Heap) : Option (Value × Heap) :=
 S.b (ofStr x0 H) fun y1 H2 =>
 S.b (C 8 [y1] H2) fun y3 H4 =>
 S.b (extr 0 y3 H4) fun y5 H6 =>
 S.b (extr 1 y3 H6) fun y7 H8 =>
 S.b (extr 2 y3 H8) fun y9 H10 =>
 S.b (newV [(.slice none 0 0), (.string ⟨#[]⟩), (.slice none 0 0), (.slice none 0 0), (.slice none 0 0)] H10) fun y11 H12 =>
 S.b (stV 5 y11 y5 H12) fun _ H13 =>
 S.b (up (binB Tryd.prog .eql 30 y9 (.int .i64 150)) H13) fun y14 H15 =>
 S.b (gd (wd y14 true) (some (y7, H15)) H15) fun y16 H17 =>
 S.b (gd (wd y14 true) (some (x1, H17)) H17) fun y18 H19 =>
 S.b (gd (wd y14 true) (up (binB Tryd.prog .eql 3 y16 y18) H19) H19) fun y20 H21 =>
 S.b (pickV y14 y20 (.bool false) H21) fun y22 H23 =>
 some (y22, H23)

theorem f23_main (S : Seam (Value × Heap)) (C : CallF) (n : Nat) (x0 : Value) (x1 : Value) (H : Heap) : acodeK S Tryd.prog C n 22 f23_c (env0 [x0, x1]) H (fin Tryd.prog Tryd.f23) = f23 S C n x0 x1 H := by
  kernel_rfl


theorem f23_eq {E : Ext} (hE : E 23 = none) (n : Nat) (x0 : Value) (x1 : Value) (H : Heap) : acall Tryd.prog true E (n + 1) 23 [x0, x1] H = f23 real (acall Tryd.prog true E n) n x0 x1 H :=
  (acall_eq (N := 22) Tryd.func23 (by kernel_rfl) (by kernel_rfl) hE (by kernel_rfl) (by kernel_rfl)).trans (f23_main real _ n x0 x1 H)

/-! bytes.TrimLeft -/
noncomputable def f32_c : Code := (Tryd.f32.body).getD .skip

noncomputable def f32 (S : Seam (Value × Heap)) (C : CallF) (n : Nat) (x0 : Value) (x1 : Value) (H : Heap) : Option (Value × Heap) :=
 S.b (up (lenS x0) H) fun y1 H2 =>
 S.b (up (binB Tryd.prog .eql 3 y1 (.int .i64 0)) H2) fun y3 H4 =>
 S.i y3
 (some ((.slice none 0 0), H4))
 (S.b (up (binB Tryd.prog .eql 9 x1 (.string ⟨#[]⟩)) H4) fun y5 H6 =>
  S.i y5
  (some (x0, H6))
  (S.b (up (lenStr x1) H6) fun y7 H8 =>
   S.b (up (binB Tryd.prog .eql 3 y7 (.int .i64 1)) H8) fun y9 H10 =>
   S.b (gd (wd y9 true) (some (x1, H10)) H10) fun y11 H12 =>
   S.b (gd (wd y9 true) (up (idxS y11 (.int .i64 0)) H12) H12) fun y13 H14 =>
   S.b (gd (wd y9 true) (up (binB Tryd.prog .lss 5 y13 (.int .u8 128)) H14) H14) fun y15 H16 =>
   S.b (pickV y9 y15 (.bool false) H16) fun y17 H18 =>
   S.i y17
   (S.b (up (idxS x1 (.int .i64 0)) H18) fun y19 H20 =>
    S.b (C 43 [x0, y19] H20) fun y21 H22 =>
    some (y21, H22))
   (S.b (C 44 [x1] H18) fun y23 H24 =>
    S.b (extr 0 y23 H24) fun y25 H26 =>
    S.b (extr 1 y23 H26) fun y27 H28 =>
    S.b (newV (rep 256 [(.bool false)]) H28) fun y29 H30 =>
    S.b (stV 256 y29 y25 H30) fun _ H31 =>
    S.i y27
    (S.b (C 45 [x0, y29] H31) fun y32 H33 =>
     some (y32, H33))
    (S.b (C 46 [x0, x1] H31) fun y34 H35 =>
     some (y34, H35)))))

theorem f32_main (S : Seam (Value × Heap)) (C : CallF) (n : Nat) (x0 : Value) (x1 : Value) (H : Heap) : acodeK S Tryd.prog C n 36 f32_c (env0 [x0, x1]) H (fin Tryd.prog Tryd.f32) = f32 S C n x0 x1 H := by
  kernel_rfl


theorem f32_eq {E : Ext} (hE : E 32 = none) (n : Nat) (x0 : Value) (x1 : Value) (H : Heap) : acall Tryd.prog true E (n + 1) 32 [x0, x1] H = f32 real (acall Tryd.prog true E n) n x0 x1 H :=
  (acall_eq (N := 36) Tryd.func32 (by kernel_rfl) (by kernel_rfl) hE (by kernel_rfl) (by kernel_rfl)).trans (f32_main real _ n x0 x1 H)

/-! bytes.Cut -/
noncomputable def f33_c : Code := (Tryd.f33.body).getD .skip

noncomputable def f33 (S : Seam (Value × Heap)) (C : CallF) (n : Nat) (x0 : Value) (x1 : Value) (H : Heap) : Option (Value × Heap) :=
 S.b (C 47 [x0, x1] H) fun y1 H2 =>
 S.b (up (binB Tryd.prog .geq 3 y1 (.int .i64 0)) H2) fun y3 H4 =>
 S.i y3
 (S.b (up (slcS 1 x0 none (some y1) none) H4) fun y5 H6 =>
  S.b (up (lenS x1) H6) fun y7 H8 =>
  S.b (up (binB Tryd.prog .add 3 y1 y7) H8) fun y9 H10 =>
  S.b (up (slcS 1 x0 (some y9) none none) H10) fun y11 H12 =>
  some (.tuple #[y5, y11, (.bool true)], H12))
 (some (.tuple #[x0, (.slice none 0 0), (.bool false)], H4))

theorem f33_main (S : Seam (Value × Heap)) (C : CallF) (n : Nat) (x0 : Value) (x1 : Value) (H : Heap) : acodeK S Tryd.prog C n 23 f33_c (env0 [x0, x1]) H (fin Tryd.prog Tryd.f33) = f33 S C n x0 x1 H := by
  kernel_rfl


theorem f33_eq {E : Ext} (hE : E 33 = none) (n : Nat) (x0 : Value) (x1 : Value) (H : Heap) : acall Tryd.prog true E (n + 1) 33 [x0, x1] H = f33 real (acall Tryd.prog true E n) n x0 x1 H :=
  (acall_eq (N := 23) Tryd.func33 (by kernel_rfl) (by kernel_rfl) hE (by kernel_rfl) (by kernel_rfl)).trans (f33_main real _ n x0 x1 H)

/-! incunable/words.word -/
noncomputable def f34_c : Code := (Tryd.f34.body).getD .skip

noncomputable def f34 (S : Seam (Value × Heap)) (C : CallF) (n : Nat) (x0 : Value) (H : Heap) : Option (Value × Heap) :=
 S.b (up (idxS x0 (.int .i64 0)) H) fun y1 H2 =>
 S.b (C 48 [(.string ⟨#[61, 59, 58, 124]⟩), y1] H2) fun y3 H4 =>
 S.b (up (binB Tryd.prog .geq 3 y3 (.int .i64 0)) H4) fun y5 H6 =>
 S.i y5
 (some (.tuple #[(.int .i64 4), (.int .i64 1)], H6))
 (S.b (up (binB Tryd.prog .eql 5 y1 (.int .u8 34)) H6) fun y7 H8 =>
  S.i y7
  (S.b (up (slcStr x0 (some (.int .i64 1)) none) H8) fun y9 H10 =>
   S.b (C 49 [y9, (.int .u8 34), (.int .u8 34)] H10) fun y11 H12 =>
   S.b (up (binB Tryd.prog .geq 3 y11 (.int .i64 0)) H12) fun y13 H14 =>
   S.b (gd (wd y13 true) (some (x0, H14)) H14) fun y15 H16 =>
   S.b (gd (wd y13 true) (some (y11, H16)) H16) fun y17 H18 =>
   S.b (gd (wd y13 true) (up (binB Tryd.prog .add 3 (.int .i64 1) y17) H18) H18) fun y19 H20 =>
   S.b (gd (wd y13 true) (up (slcStr y15 (some (.int .i64 1)) (some y19)) H20) H20) fun y21 H22 =>
   S.b (gd (wd y13 true) (C 50 [y21] H22) H22) fun y23 H24 =>
   S.b (pickV y13 y23 (.bool false) H24) fun y25 H26 =>
   S.i y25
   (S.b (up (binB Tryd.prog .add 3 y11 (.int .i64 2)) H26) fun y27 H28 =>
    some (.tuple #[(.int .i64 2), y27], H28))
   (some (.tuple #[(.int .i64 0), (.int .i64 0)], H26)))
  (S.b (up (binB Tryd.prog .eql 5 y1 (.int .u8 47)) H8) fun y31 H32 =>
   S.i y31
   (S.b (up (slcStr x0 (some (.int .i64 1)) none) H32) fun y33 H34 =>
    S.b (C 49 [y33, (.int .u8 47), (.int .u8 92)] H34) fun y35 H36 =>
    S.b (up (binB Tryd.prog .geq 3 y35 (.int .i64 0)) H36) fun y37 H38 =>
    S.i y37
    (S.b (up (binB Tryd.prog .add 3 y35 (.int .i64 2)) H38) fun y39 H40 =>
     some (.tuple #[(.int .i64 3), y39], H40))
    (some (.tuple #[(.int .i64 0), (.int .i64 0)], H38)))
   (S.b (C 51 [y1] H32) fun y41 H42 =>
    S.b (gd (wd y41 true) (some (y1, H42)) H42) fun y43 H44 =>
    S.b (gd (wd y41 true) (C 52 [y43] H44) H44) fun y45 H46 =>
    S.b (gd (wd y41 true) (up (unB .not y45) H46) H46) fun y47 H48 =>
    S.b (pickV y41 y47 (.bool false) H48) fun y49 H50 =>
    S.i y49
    (S.b (C 53 [x0] H50) fun y51 H52 =>
     S.b (up (slcA 9 1 (.pointer (some ⟨0, 0, none⟩)) none none none) H52) fun y53 H54 =>
     S.b (up (slcStr x0 none (some y51)) H54) fun y55 H56 =>
     S.b (C 54 [y53, y55] H56) fun y57 H58 =>
     S.c true (S.b (up (binB Tryd.prog .geq 3 y57 (.int .i64 0)) H58) fun y59 H60 =>
      S.i y59
      (S.b (up (binB Tryd.prog .add 3 (.int .i64 5) y57) H60) fun y61 H62 =>
       some (.tuple #[y61, y51], H62))
      (S.b (up (binB Tryd.prog .leq 3 y51 (.int .i64 24)) H60) fun y63 H64 =>
       S.i y63
       (some (.tuple #[(.int .i64 1), y51], H64))
       (some (.tuple #[(.int .i64 0), (.int .i64 0)], H64)))))
    (some (.tuple #[(.int .i64 0), (.int .i64 0)], H50)))))

theorem f34_main (S : Seam (Value × Heap)) (C : CallF) (n : Nat) (x0 : Value) (H : Heap) : acodeK S Tryd.prog C n 65 f34_c (env0 [x0]) H (fin Tryd.prog Tryd.f34) = f34 S C n x0 H := by
  kernel_rfl


theorem f34_eq {E : Ext} (hE : E 34 = none) (n : Nat) (x0 : Value) (H : Heap) : acall Tryd.prog true E (n + 1) 34 [x0] H = f34 real (acall Tryd.prog true E n) n x0 H :=
  (acall_eq (N := 65) Tryd.func34 (by kernel_rfl) (by kernel_rfl) hE (by kernel_rfl) (by kernel_rfl)).trans (f34_main real _ n x0 H)

/-! (*incunable/gram.reader).must -/
noncomputable def f35_c : Code := (Tryd.f35.body).getD .skip

noncomputable def f35 (S : Seam (Value × Heap)) (C : CallF) (n : Nat) (x0 : Value) (x1 : Value) (x2 : Value) (H : Heap) : Option (Value × Heap) :=
 S.b (C 55 [x0, x1, x2] H) fun y1 H2 =>
 S.b (extr 0 y1 H2) fun y3 H4 =>
 S.b (extr 1 y1 H4) fun y5 H6 =>
 S.b (nilC x0 H6) fun y7 H8 =>
 S.b (up (fAddr 2 y7) H8) fun y9 H10 =>
 S.b (ldC y9 H10) fun y11 H12 =>
 S.b (gd (wd y11 false) (some (y5, H12)) H12) fun y13 H14 =>
 S.b (gd (wd y11 false) (up (unB .not y13) H14) H14) fun y15 H16 =>
 S.b (pickV y11 (.bool true) y15 H16) fun y17 H18 =>
 S.b (nilC x0 H18) fun y19 H20 =>
 S.b (up (fAddr 2 y19) H20) fun y21 H22 =>
 S.b (stV 1 y21 y17 H22) fun _ H23 =>
 some (y3, H23)

theorem f35_main (S : Seam (Value × Heap)) (C : CallF) (n : Nat) (x0 : Value) (x1 : Value) (x2 : Value) (H : Heap) : acodeK S Tryd.prog C n 28 f35_c (env0 [x0, x1, x2]) H (fin Tryd.prog Tryd.f35) = f35 S C n x0 x1 x2 H := by
  kernel_rfl


theorem f35_eq {E : Ext} (hE : E 35 = none) (n : Nat) (x0 : Value) (x1 : Value) (x2 : Value) (H : Heap) : acall Tryd.prog true E (n + 1) 35 [x0, x1, x2] H = f35 real (acall Tryd.prog true E n) n x0 x1 x2 H :=
  (acall_eq (N := 28) Tryd.func35 (by kernel_rfl) (by kernel_rfl) hE (by kernel_rfl) (by kernel_rfl)).trans (f35_main real _ n x0 x1 x2 H)

/-! (*incunable/gram.reader).rule -/
noncomputable def f36_c : Code := (Tryd.f36.body).getD .skip

noncomputable def f36_L0 (S : Seam (Value × Heap)) (C : CallF) (n : Nat) : Nat → Value → Value → Value → Value → Heap → Option (Value × Heap)
 | 0, _, _, _, _, _ => none
 | m + 1, y12, y13, y14, y15, H16 =>
   S.i y15
   (S.b (up (fAddr 1 y14) H16) fun y17 H18 =>
    S.c true (S.b (ldC y17 H18) fun y19 H20 =>
    S.b (C 56 [y12] H20) fun y21 H22 =>
    S.c (sameBlk H20 H22 (blkOf y17) && true) (S.b (bldS 2 1 [(.slice none 0 0), (.string ⟨#[]⟩)] [(0, 2, y21)] H22) fun y23 H24 =>
     S.b (app 2 40 y19 y23 H24) fun y25 H26 =>
     S.c true (S.b (up (fAddr 1 y14) H26) fun y27 H28 =>
      S.b (stV 1 y27 y25 H28) fun _ H29 =>
      S.c true (S.b (C 55 [y12, (.int .i64 4), (.string ⟨#[124]⟩)] H29) fun y30 H31 =>
       S.b (extr 0 y30 H31) fun y32 H33 =>
       S.b (extr 1 y30 H33) fun y34 H35 =>
       f36_L0 S C n m y12 y13 y14 y34 H35)))))
   (S.b (ldA 2 y14 H16) fun y36 H37 =>
    S.b (stV 2 y13 y36 H37) fun _ H38 =>
    (resM [(ldA 2 y13 H38).map (·.1)]).map fun l => (one l, H38))

theorem f36_L0_eq (S : Seam (Value × Heap)) (C : CallF) (n : Nat) : ∀ (m : Nat) (env : Env) (H : Heap), aloopK (acodeK S Tryd.prog C n 24 (cAt f36_c [1, 1, 1, 0, 1, 0, 0])) m env H (kAt S Tryd.prog C n 24 f36_c [1, 1, 1, 0, 1, 0] (fin Tryd.prog Tryd.f36)) = f36_L0 S C n m (env 0) (env 2) (env 3) (env 4) H := by
  intro m env H
  refine aloopK_eq (L := fun m env H => f36_L0 S C n m (env 0) (env 2) (env 3) (env 4) H) (fun env H => rfl) (fun m env H => ?_) m env H
  kernel_rfl


noncomputable def f36 (S : Seam (Value × Heap)) (C : CallF) (n : Nat) (x0 : Value) (H : Heap) : Option (Value × Heap) :=
 S.b (newV [(.string ⟨#[]⟩), (.slice none 0 0)] H) fun y1 H2 =>
 S.b (C 35 [x0, (.int .i64 1), (.string ⟨#[]⟩)] H2) fun y3 H4 =>
 S.b (bld [(.string ⟨#[]⟩), (.slice none 0 0)] [(0, 1, y3)] H4) fun y5 H6 =>
 S.b (newV [(.string ⟨#[]⟩), (.slice none 0 0)] H6) fun y7 H8 =>
 S.b (stV 2 y7 y5 H8) fun _ H9 =>
 S.b (C 35 [x0, (.int .i64 4), (.string ⟨#[58]⟩)] H9) fun y10 H11 =>
 f36_L0 S C n n x0 y1 y7 (.bool true) H11

noncomputable def f36G (S : Seam (Value × Heap)) (C : CallF) (n : Nat) (P0 : Env → Heap → Option (Value × Heap)) (x0 : Value) (H : Heap) : Option (Value × Heap) :=
 S.b (newV [(.string ⟨#[]⟩), (.slice none 0 0)] H) fun y39 H40 =>
 S.b (C 35 [x0, (.int .i64 1), (.string ⟨#[]⟩)] H40) fun y41 H42 =>
 S.b (bld [(.string ⟨#[]⟩), (.slice none 0 0)] [(0, 1, y41)] H42) fun y43 H44 =>
 S.b (newV [(.string ⟨#[]⟩), (.slice none 0 0)] H44) fun y45 H46 =>
 S.b (stV 2 y45 y43 H46) fun u47 H48 =>
 S.b (C 35 [x0, (.int .i64 4), (.string ⟨#[58]⟩)] H48) fun y49 H50 =>
 P0 (putE 24 (putE 24 (putE 24 (putE 24 (putE 24 (putE 24 (putE 24 (putE 24 (putE 24 (env0 [x0]) (some 2) y39) (some 5) x0) (some 6) y41) (some 7) y43) (some 3) y45) none u47) (some 8) x0) (some 9) y49) (some 4) (.bool true)) H50

theorem f36_main (S : Seam (Value × Heap)) (C : CallF) (n : Nat) (x0 : Value) (H : Heap) : acodeK S Tryd.prog C n 24 f36_c (env0 [x0]) H (fin Tryd.prog Tryd.f36) = f36 S C n x0 H := by
  have h1 : acodeK S Tryd.prog C n 24 f36_c (env0 [x0]) H (fin Tryd.prog Tryd.f36) = f36G S C n (fun env H => aloopK (acodeK S Tryd.prog C n 24 (cAt f36_c [1, 1, 1, 0, 1, 0, 0])) n env H (kAt S Tryd.prog C n 24 f36_c [1, 1, 1, 0, 1, 0] (fin Tryd.prog Tryd.f36))) x0 H := by kernel_rfl
  have e0 : (fun env H => aloopK (acodeK S Tryd.prog C n 24 (cAt f36_c [1, 1, 1, 0, 1, 0, 0])) n env H (kAt S Tryd.prog C n 24 f36_c [1, 1, 1, 0, 1, 0] (fin Tryd.prog Tryd.f36))) = (fun env H => f36_L0 S C n n (env 0) (env 2) (env 3) (env 4) H) := by funext env H; exact f36_L0_eq S C n n env H
  rw [e0] at h1
  exact h1.trans (by kernel_rfl)


theorem f36_eq {E : Ext} (hE : E 36 = none) (n : Nat) (x0 : Value) (H : Heap) : acall Tryd.prog true E (n + 1) 36 [x0] H = f36 real (acall Tryd.prog true E n) n x0 H :=
  (acall_eq (N := 24) Tryd.func36 (by kernel_rfl) (by kernel_rfl) hE (by kernel_rfl) (by kernel_rfl)).trans (f36_main real _ n x0 H)

/-! (*incunable/gram.reader).names -/
noncomputable def f37_c : Code := (Tryd.f37.body).getD .skip

noncomputable def f37_L0 (S : Seam (Value × Heap)) (C : CallF) (n : Nat) : Nat → Value → Value → Value → Value → Heap → Option (Value × Heap)
 | 0, _, _, _, _, _ => none
 | m + 1, y7, y8, y9, y10, H11 =>
   S.i y10
   (S.b (bldS 1 1 [(.string ⟨#[]⟩)] [(0, 1, y9)] H11) fun y12 H13 =>
    S.b (app 1 16 y8 y12 H13) fun y14 H15 =>
    S.b (C 55 [y7, (.int .i64 1), (.string ⟨#[]⟩)] H15) fun y16 H17 =>
    S.b (extr 0 y16 H17) fun y18 H19 =>
    S.b (extr 1 y16 H19) fun y20 H21 =>
    f37_L0 S C n m y7 y14 y18 y20 H21)
   (some (y8, H11))

theorem f37_L0_eq (S : Seam (Value × Heap)) (C : CallF) (n : Nat) : ∀ (m : Nat) (env : Env) (H : Heap), aloopK (acodeK S Tryd.prog C n 21 (cAt f37_c [1, 0, 1, 0, 0])) m env H (kAt S Tryd.prog C n 21 f37_c [1, 0, 1, 0] (fin Tryd.prog Tryd.f37)) = f37_L0 S C n m (env 0) (env 2) (env 3) (env 4) H := by
  intro m env H
  refine aloopK_eq (L := fun m env H => f37_L0 S C n m (env 0) (env 2) (env 3) (env 4) H) (fun env H => rfl) (fun m env H => ?_) m env H
  kernel_rfl


noncomputable def f37 (S : Seam (Value × Heap)) (C : CallF) (n : Nat) (x0 : Value) (H : Heap) : Option (Value × Heap) :=
 S.b (C 55 [x0, (.int .i64 1), (.string ⟨#[]⟩)] H) fun y1 H2 =>
 S.b (extr 0 y1 H2) fun y3 H4 =>
 S.b (extr 1 y1 H4) fun y5 H6 =>
 f37_L0 S C n n x0 (.slice none 0 0) y3 y5 H6

noncomputable def f37G (S : Seam (Value × Heap)) (C : CallF) (n : Nat) (P0 : Env → Heap → Option (Value × Heap)) (x0 : Value) (H : Heap) : Option (Value × Heap) :=
 S.b (C 55 [x0, (.int .i64 1), (.string ⟨#[]⟩)] H) fun y22 H23 =>
 S.b (extr 0 y22 H23) fun y24 H25 =>
 S.b (extr 1 y22 H25) fun y26 H27 =>
 P0 (putE 21 (putE 21 (putE 21 (putE 21 (putE 21 (putE 21 (putE 21 (putE 21 (env0 [x0]) (some 2) (.slice none 0 0)) (some 6) x0) (some 7) y22) (some 5) y22) (some 8) y24) (some 9) y26) (some 3) y24) (some 4) y26) H27

theorem f37_main (S : Seam (Value × Heap)) (C : CallF) (n : Nat) (x0 : Value) (H : Heap) : acodeK S Tryd.prog C n 21 f37_c (env0 [x0]) H (fin Tryd.prog Tryd.f37) = f37 S C n x0 H := by
  have h1 : acodeK S Tryd.prog C n 21 f37_c (env0 [x0]) H (fin Tryd.prog Tryd.f37) = f37G S C n (fun env H => aloopK (acodeK S Tryd.prog C n 21 (cAt f37_c [1, 0, 1, 0, 0])) n env H (kAt S Tryd.prog C n 21 f37_c [1, 0, 1, 0] (fin Tryd.prog Tryd.f37))) x0 H := by kernel_rfl
  have e0 : (fun env H => aloopK (acodeK S Tryd.prog C n 21 (cAt f37_c [1, 0, 1, 0, 0])) n env H (kAt S Tryd.prog C n 21 f37_c [1, 0, 1, 0] (fin Tryd.prog Tryd.f37))) = (fun env H => f37_L0 S C n n (env 0) (env 2) (env 3) (env 4) H) := by funext env H; exact f37_L0_eq S C n n env H
  rw [e0] at h1
  exact h1.trans (by kernel_rfl)


theorem f37_eq {E : Ext} (hE : E 37 = none) (n : Nat) (x0 : Value) (H : Heap) : acall Tryd.prog true E (n + 1) 37 [x0] H = f37 real (acall Tryd.prog true E n) n x0 H :=
  (acall_eq (N := 21) Tryd.func37 (by kernel_rfl) (by kernel_rfl) hE (by kernel_rfl) (by kernel_rfl)).trans (f37_main real _ n x0 H)

/-! incunable/incunableref14.word -/
noncomputable def f38_c : Code := (Tryd.f38.body).getD .skip

noncomputable def f38_L0 (S : Seam (Value × Heap)) (C : CallF) (n : Nat) : Nat → Value → Value → Value → Value → Value → Heap → Option (Value × Heap)
 | 0, _, _, _, _, _, _ => none
 | m + 1, y91, y92, y93, y94, y95, H96 =>
   S.b (up (lenS y91) H96) fun y97 H98 =>
   S.b (up (binB Tryd.prog .lss 3 y95 y97) H98) fun y99 H100 =>
   S.b (gd (wd y99 true) (some (y91, H100)) H100) fun y101 H102 =>
   S.b (gd (wd y99 true) (some (y95, H102)) H102) fun y103 H104 =>
   S.b (gd (wd y99 true) (up (iAddrS 1 y101 y103) H104) H104) fun y105 H106 =>
   S.b (gd (wd y99 true) (ldC y105 H106) H106) fun y107 H108 =>
   S.b (gd (wd y99 true) (C 59 [y107] H108) H108) fun y109 H110 =>
   S.b (pickV y99 y109 (.bool false) H110) fun y111 H112 =>
   S.i y111
   (S.b (up (binB Tryd.prog .add 3 y95 (.int .i64 1)) H112) fun y113 H114 =>
    f38_L0 S C n m y91 y92 y93 y94 y113 H114)
   (S.b (up (slcS 1 y91 (some y92) (some y95) none) H112) fun y115 H116 =>
    S.b (toStr y115 H116) fun y117 H118 =>
    S.b (C 61 [y117] H118) fun y119 H120 =>
    S.b (up (binB Tryd.prog .eql 3 y119 (.int .i64 0)) H120) fun y121 H122 =>
    S.i y121
    (S.b (ldA 3 y94 H122) fun y123 H124 =>
     S.b (stV 3 y93 y123 H124) fun _ H125 =>
     (resM [(ldA 3 y93 H125).map (·.1)]).map fun l => (one l, H125))
    (S.b (bld [(.int .i64 0), (.int .i64 0), (.int .i64 0)] [(0, 1, y119), (1, 1, y92), (2, 1, y95)] H122) fun y126 H127 =>
     S.b (stV 3 y93 y126 H127) fun _ H128 =>
     (resM [(ldA 3 y93 H128).map (·.1)]).map fun l => (one l, H128)))

theorem f38_L0_eq (S : Seam (Value × Heap)) (C : CallF) (n : Nat) : ∀ (m : Nat) (env : Env) (H : Heap), aloopK (acodeK S Tryd.prog C n 106 (cAt f38_c [1, 1, 1, 0, 0, 1, 1, 1, 1, 1, 1, 1, 0, 1, 0, 0, 0])) m env H (kAt S Tryd.prog C n 106 f38_c [1, 1, 1, 0, 0, 1, 1, 1, 1, 1, 1, 1, 0, 1, 0, 0] (fin Tryd.prog Tryd.f38)) = f38_L0 S C n m (env 0) (env 1) (env 4) (env 5) (env 9) H := by
  intro m env H
  refine aloopK_eq (L := fun m env H => f38_L0 S C n m (env 0) (env 1) (env 4) (env 5) (env 9) H) (fun env H => rfl) (fun m env H => ?_) m env H
  kernel_rfl


noncomputable def f38 (S : Seam (Value × Heap)) (C : CallF) (n : Nat) (x0 : Value) (x1 : Value) (H : Heap) : Option (Value × Heap) :=
 S.b (newV [(.int .i64 0), (.int .i64 0), (.int .i64 0)] H) fun y1 H2 =>
 S.b (bld [(.int .i64 0), (.int .i64 0), (.int .i64 0)] [] H2) fun y3 H4 =>
 S.b (newV [(.int .i64 0), (.int .i64 0), (.int .i64 0)] H4) fun y5 H6 =>
 S.b (stV 3 y5 y3 H6) fun _ H7 =>
 S.b (up (iAddrS 1 x0 x1) H7) fun y8 H9 =>
 S.b (ldC y8 H9) fun y10 H11 =>
 S.b (up (binB Tryd.prog .eql 5 y10 (.int .u8 61)) H11) fun y12 H13 =>
 S.b (gd (wd y12 false) (some (y10, H13)) H13) fun y14 H15 =>
 S.b (gd (wd y12 false) (up (binB Tryd.prog .eql 5 y14 (.int .u8 59)) H15) H15) fun y16 H17 =>
 S.b (pickV y12 (.bool true) y16 H17) fun y18 H19 =>
 S.b (gd (wd y18 false) (some (y10, H19)) H19) fun y20 H21 =>
 S.b (gd (wd y18 false) (up (binB Tryd.prog .eql 5 y20 (.int .u8 58)) H21) H21) fun y22 H23 =>
 S.b (pickV y18 (.bool true) y22 H23) fun y24 H25 =>
 S.b (gd (wd y24 false) (some (y10, H25)) H25) fun y26 H27 =>
 S.b (gd (wd y24 false) (up (binB Tryd.prog .eql 5 y26 (.int .u8 124)) H27) H27) fun y28 H29 =>
 S.b (pickV y24 (.bool true) y28 H29) fun y30 H31 =>
 S.i y30
 (S.b (up (binB Tryd.prog .add 3 x1 (.int .i64 1)) H31) fun y32 H33 =>
  S.b (bld [(.int .i64 0), (.int .i64 0), (.int .i64 0)] [(0, 1, (.int .i64 4)), (1, 1, x1), (2, 1, y32)] H33) fun y34 H35 =>
  S.b (stV 3 y1 y34 H35) fun _ H36 =>
  (resM [(ldA 3 y1 H36).map (·.1)]).map fun l => (one l, H36))
 (S.b (up (binB Tryd.prog .eql 5 y10 (.int .u8 34)) H31) fun y37 H38 =>
  S.i y37
  (S.b (C 57 [x0, x1] H38) fun y39 H40 =>
   S.b (up (binB Tryd.prog .lss 3 y39 (.int .i64 0)) H40) fun y41 H42 =>
   S.b (gd (wd y41 false) (some (x0, H42)) H42) fun y43 H44 =>
   S.b (gd (wd y41 false) (some (x1, H44)) H44) fun y45 H46 =>
   S.b (gd (wd y41 false) (up (binB Tryd.prog .add 3 y45 (.int .i64 1)) H46) H46) fun y47 H48 =>
   S.b (gd (wd y41 false) (some (y39, H48)) H48) fun y49 H50 =>
   S.b (gd (wd y41 false) (up (binB Tryd.prog .sub 3 y49 (.int .i64 1)) H50) H50) fun y51 H52 =>
   S.b (gd (wd y41 false) (up (slcS 1 y43 (some y47) (some y51) none) H52) H52) fun y53 H54 =>
   S.b (gd (wd y41 false) (toStr y53 H54) H54) fun y55 H56 =>
   S.b (gd (wd y41 false) (C 58 [y55] H56) H56) fun y57 H58 =>
   S.b (gd (wd y41 false) (up (unB .not y57) H58) H58) fun y59 H60 =>
   S.b (pickV y41 (.bool true) y59 H60) fun y61 H62 =>
   S.i y61
   (S.b (ldA 3 y5 H62) fun y63 H64 =>
    S.b (stV 3 y1 y63 H64) fun _ H65 =>
    (resM [(ldA 3 y1 H65).map (·.1)]).map fun l => (one l, H65))
   (S.b (bld [(.int .i64 0), (.int .i64 0), (.int .i64 0)] [(0, 1, (.int .i64 2)), (1, 1, x1), (2, 1, y39)] H62) fun y66 H67 =>
    S.b (stV 3 y1 y66 H67) fun _ H68 =>
    (resM [(ldA 3 y1 H68).map (·.1)]).map fun l => (one l, H68)))
  (S.b (up (binB Tryd.prog .eql 5 y10 (.int .u8 47)) H38) fun y69 H70 =>
   S.i y69
   (S.b (C 57 [x0, x1] H70) fun y71 H72 =>
    S.b (up (binB Tryd.prog .lss 3 y71 (.int .i64 0)) H72) fun y73 H74 =>
    S.i y73
    (S.b (ldA 3 y5 H74) fun y75 H76 =>
     S.b (stV 3 y1 y75 H76) fun _ H77 =>
     (resM [(ldA 3 y1 H77).map (·.1)]).map fun l => (one l, H77))
    (S.b (bld [(.int .i64 0), (.int .i64 0), (.int .i64 0)] [(0, 1, (.int .i64 3)), (1, 1, x1), (2, 1, y71)] H74) fun y78 H79 =>
     S.b (stV 3 y1 y78 H79) fun _ H80 =>
     (resM [(ldA 3 y1 H80).map (·.1)]).map fun l => (one l, H80)))
   (S.b (C 59 [y10] H70) fun y81 H82 =>
    S.b (gd (wd y81 true) (some (y10, H82)) H82) fun y83 H84 =>
    S.b (gd (wd y81 true) (C 60 [y83] H84) H84) fun y85 H86 =>
    S.b (gd (wd y81 true) (up (unB .not y85) H86) H86) fun y87 H88 =>
    S.b (pickV y81 y87 (.bool false) H88) fun y89 H90 =>
    S.i y89
    (f38_L0 S C n n x0 x1 y1 y5 x1 H90)
    (S.b (ldA 3 y5 H90) fun y129 H130 =>
     S.b (stV 3 y1 y129 H130) fun _ H131 =>
     (resM [(ldA 3 y1 H131).map (·.1)]).map fun l => (one l, H131)))))

noncomputable def f38G (S : Seam (Value × Heap)) (C : CallF) (n : Nat) (P0 : Env → Heap → Option (Value × Heap)) (x0 : Value) (x1 : Value) (H : Heap) : Option (Value × Heap) :=
 S.b (newV [(.int .i64 0), (.int .i64 0), (.int .i64 0)] H) fun y132 H133 =>
 S.b (bld [(.int .i64 0), (.int .i64 0), (.int .i64 0)] [] H133) fun y134 H135 =>
 S.b (newV [(.int .i64 0), (.int .i64 0), (.int .i64 0)] H135) fun y136 H137 =>
 S.b (stV 3 y136 y134 H137) fun u138 H139 =>
 S.b (up (iAddrS 1 x0 x1) H139) fun y140 H141 =>
 S.b (ldC y140 H141) fun y142 H143 =>
 S.b (up (binB Tryd.prog .eql 5 y142 (.int .u8 61)) H143) fun y144 H145 =>
 S.b (gd (wd y144 false) (some (y142, H145)) H145) fun y146 H147 =>
 S.b (gd (wd y144 false) (up (binB Tryd.prog .eql 5 y146 (.int .u8 59)) H147) H147) fun y148 H149 =>
 S.b (pickV y144 (.bool true) y148 H149) fun y150 H151 =>
 S.b (gd (wd y150 false) (some (y142, H151)) H151) fun y152 H153 =>
 S.b (gd (wd y150 false) (up (binB Tryd.prog .eql 5 y152 (.int .u8 58)) H153) H153) fun y154 H155 =>
 S.b (pickV y150 (.bool true) y154 H155) fun y156 H157 =>
 S.b (gd (wd y156 false) (some (y142, H157)) H157) fun y158 H159 =>
 S.b (gd (wd y156 false) (up (binB Tryd.prog .eql 5 y158 (.int .u8 124)) H159) H159) fun y160 H161 =>
 S.b (pickV y156 (.bool true) y160 H161) fun y162 H163 =>
 S.i y162
 (S.b (up (binB Tryd.prog .add 3 x1 (.int .i64 1)) H163) fun y164 H165 =>
  S.b (bld [(.int .i64 0), (.int .i64 0), (.int .i64 0)] [(0, 1, (.int .i64 4)), (1, 1, x1), (2, 1, y164)] H165) fun y166 H167 =>
  S.b (stV 3 y132 y166 H167) fun u168 H169 =>
  (resM [(ldA 3 y132 H169).map (·.1)]).map fun l => (one l, H169))
 (S.b (up (binB Tryd.prog .eql 5 y142 (.int .u8 34)) H163) fun y170 H171 =>
  S.i y170
  (S.b (C 57 [x0, x1] H171) fun y172 H173 =>
   S.b (up (binB Tryd.prog .lss 3 y172 (.int .i64 0)) H173) fun y174 H175 =>
   S.b (gd (wd y174 false) (some (x0, H175)) H175) fun y176 H177 =>
   S.b (gd (wd y174 false) (some (x1, H177)) H177) fun y178 H179 =>
   S.b (gd (wd y174 false) (up (binB Tryd.prog .add 3 y178 (.int .i64 1)) H179) H179) fun y180 H181 =>
   S.b (gd (wd y174 false) (some (y172, H181)) H181) fun y182 H183 =>
   S.b (gd (wd y174 false) (up (binB Tryd.prog .sub 3 y182 (.int .i64 1)) H183) H183) fun y184 H185 =>
   S.b (gd (wd y174 false) (up (slcS 1 y176 (some y180) (some y184) none) H185) H185) fun y186 H187 =>
   S.b (gd (wd y174 false) (toStr y186 H187) H187) fun y188 H189 =>
   S.b (gd (wd y174 false) (C 58 [y188] H189) H189) fun y190 H191 =>
   S.b (gd (wd y174 false) (up (unB .not y190) H191) H191) fun y192 H193 =>
   S.b (pickV y174 (.bool true) y192 H193) fun y194 H195 =>
   S.i y194
   (S.b (ldA 3 y136 H195) fun y196 H197 =>
    S.b (stV 3 y132 y196 H197) fun u198 H199 =>
    (resM [(ldA 3 y132 H199).map (·.1)]).map fun l => (one l, H199))
   (S.b (bld [(.int .i64 0), (.int .i64 0), (.int .i64 0)] [(0, 1, (.int .i64 2)), (1, 1, x1), (2, 1, y172)] H195) fun y200 H201 =>
    S.b (stV 3 y132 y200 H201) fun u202 H203 =>
    (resM [(ldA 3 y132 H203).map (·.1)]).map fun l => (one l, H203)))
  (S.b (up (binB Tryd.prog .eql 5 y142 (.int .u8 47)) H171) fun y204 H205 =>
   S.i y204
   (S.b (C 57 [x0, x1] H205) fun y206 H207 =>
    S.b (up (binB Tryd.prog .lss 3 y206 (.int .i64 0)) H207) fun y208 H209 =>
    S.i y208
    (S.b (ldA 3 y136 H209) fun y210 H211 =>
     S.b (stV 3 y132 y210 H211) fun u212 H213 =>
     (resM [(ldA 3 y132 H213).map (·.1)]).map fun l => (one l, H213))
    (S.b (bld [(.int .i64 0), (.int .i64 0), (.int .i64 0)] [(0, 1, (.int .i64 3)), (1, 1, x1), (2, 1, y206)] H209) fun y214 H215 =>
     S.b (stV 3 y132 y214 H215) fun u216 H217 =>
     (resM [(ldA 3 y132 H217).map (·.1)]).map fun l => (one l, H217)))
   (S.b (C 59 [y142] H205) fun y218 H219 =>
    S.b (gd (wd y218 true) (some (y142, H219)) H219) fun y220 H221 =>
    S.b (gd (wd y218 true) (C 60 [y220] H221) H221) fun y222 H223 =>
    S.b (gd (wd y218 true) (up (unB .not y222) H223) H223) fun y224 H225 =>
    S.b (pickV y218 y224 (.bool false) H225) fun y226 H227 =>
    S.i y226
    (P0 (putE 106 (putE 106 (putE 106 (putE 106 (putE 106 (putE 106 (putE 106 (putE 106 (putE 106 (putE 106 (putE 106 (putE 106 (putE 106 (putE 106 (putE 106 (putE 106 (putE 106 (putE 106 (putE 106 (putE 106 (putE 106 (putE 106 (putE 106 (putE 106 (putE 106 (putE 106 (putE 106 (putE 106 (putE 106 (putE 106 (putE 106 (putE 106 (putE 106 (putE 106 (putE 106 (putE 106 (putE 106 (putE 106 (putE 106 (putE 106 (env0 [x0, x1]) (some 4) y132) (some 11) y134) (some 5) y136) none u138) (some 12) x0) (some 13) x1) (some 14) y140) (some 15) y142) (some 6) y142) (some 17) y142) (some 18) y144) (some 19) y144) (some 20) y146) (some 21) y148) (some 22) y150) (some 23) y150) (some 24) y152) (some 25) y154) (some 26) y156) (some 27) y156) (some 28) y158) (some 29) y160) (some 30) y162) (some 16) y162) (some 36) y142) (some 37) y170) (some 35) y170) (some 59) y142) (some 60) y204) (some 58) y204) (some 71) y142) (some 72) y218) (some 73) y218) (some 74) y220) (some 75) y222) (some 76) y224) (some 77) y226) (some 70) y226) (some 78) x1) (some 9) x1) H227)
    (S.b (ldA 3 y136 H227) fun y228 H229 =>
     S.b (stV 3 y132 y228 H229) fun u230 H231 =>
     (resM [(ldA 3 y132 H231).map (·.1)]).map fun l => (one l, H231)))))

theorem f38_main (S : Seam (Value × Heap)) (C : CallF) (n : Nat) (x0 : Value) (x1 : Value) (H : Heap) : acodeK S Tryd.prog C n 106 f38_c (env0 [x0, x1]) H (fin Tryd.prog Tryd.f38) = f38 S C n x0 x1 H := by
  have h1 : acodeK S Tryd.prog C n 106 f38_c (env0 [x0, x1]) H (fin Tryd.prog Tryd.f38) = f38G S C n (fun env H => aloopK (acodeK S Tryd.prog C n 106 (cAt f38_c [1, 1, 1, 0, 0, 1, 1, 1, 1, 1, 1, 1, 0, 1, 0, 0, 0])) n env H (kAt S Tryd.prog C n 106 f38_c [1, 1, 1, 0, 0, 1, 1, 1, 1, 1, 1, 1, 0, 1, 0, 0] (fin Tryd.prog Tryd.f38))) x0 x1 H := by kernel_rfl
  have e0 : (fun env H => aloopK (acodeK S Tryd.prog C n 106 (cAt f38_c [1, 1, 1, 0, 0, 1, 1, 1, 1, 1, 1, 1, 0, 1, 0, 0, 0])) n env H (kAt S Tryd.prog C n 106 f38_c [1, 1, 1, 0, 0, 1, 1, 1, 1, 1, 1, 1, 0, 1, 0, 0] (fin Tryd.prog Tryd.f38))) = (fun env H => f38_L0 S C n n (env 0) (env 1) (env 4) (env 5) (env 9) H) := by funext env H; exact f38_L0_eq S C n n env H
  rw [e0] at h1
  exact h1.trans (by kernel_rfl)


theorem f38_eq {E : Ext} (hE : E 38 = none) (n : Nat) (x0 : Value) (x1 : Value) (H : Heap) : acall Tryd.prog true E (n + 1) 38 [x0, x1] H = f38 real (acall Tryd.prog true E n) n x0 x1 H :=
  (acall_eq (N := 106) Tryd.func38 (by kernel_rfl) (by kernel_rfl) hE (by kernel_rfl) (by kernel_rfl)).trans (f38_main real _ n x0 x1 H)

/-! (*incunable/incunableref15.reader).take -/
noncomputable def f39_c : Code := (Tryd.f39.body).getD .skip

noncomputable def f39 (S : Seam (Value × Heap)) (C : CallF) (n : Nat) (x0 : Value) (x1 : Value) (x2 : Value) (H : Heap) : Option (Value × Heap) :=
 S.b (C 62 [x0, x1, x2] H) fun y1 H2 =>
 S.b (up (unB .not y1) H2) fun y3 H4 =>
 S.i y3
 (S.b (nilC x0 H4) fun y5 H6 =>
  S.b (up (fAddr 3 y5) H6) fun y7 H8 =>
  S.b (stV 1 y7 (.bool true) H8) fun _ H9 =>
  some ((.string ⟨#[]⟩), H9))
 (S.b (nilC x0 H4) fun y10 H11 =>
  S.b (up (fAddr 1 y10) H11) fun y12 H13 =>
  S.c true (S.b (ldC y12 H13) fun y14 H15 =>
  S.b (nilC x0 H15) fun y16 H17 =>
  S.b (up (fAddr 2 y16) H17) fun y18 H19 =>
  S.c true (S.b (ldC y18 H19) fun y20 H21 =>
  S.b (up (iAddrS 3 y14 y20) H21) fun y22 H23 =>
  S.c true (S.b (ldA 3 y22 H23) fun y24 H25 =>
  S.b (newV [(.int .i64 0), (.int .i64 0), (.int .i64 0)] H25) fun y26 H27 =>
  S.b (stV 3 y26 y24 H27) fun _ H28 =>
  S.c true (S.b (nilC x0 H28) fun y29 H30 =>
   S.b (up (fAddr 2 y29) H30) fun y31 H32 =>
   S.b (ldC y31 H32) fun y33 H34 =>
   S.b (up (binB Tryd.prog .add 3 y33 (.int .i64 1)) H34) fun y35 H36 =>
   S.b (nilC x0 H36) fun y37 H38 =>
   S.b (up (fAddr 2 y37) H38) fun y39 H40 =>
   S.b (stV 1 y39 y35 H40) fun _ H41 =>
   S.b (up (binB Tryd.prog .eql 3 x1 (.int .i64 2)) H41) fun y42 H43 =>
   S.b (gd (wd y42 false) (some (x1, H43)) H43) fun y44 H45 =>
   S.b (gd (wd y42 false) (up (binB Tryd.prog .eql 3 y44 (.int .i64 3)) H45) H45) fun y46 H47 =>
   S.b (pickV y42 (.bool true) y46 H47) fun y48 H49 =>
   S.i y48
   (S.b (nilC x0 H49) fun y50 H51 =>
    S.b (up (fAddr 0 y50) H51) fun y52 H53 =>
    S.c true (S.b (ldC y52 H53) fun y54 H55 =>
    S.b (up (fAddr 1 y26) H55) fun y56 H57 =>
    S.c true (S.b (ldC y56 H57) fun y58 H59 =>
    S.b (up (binB Tryd.prog .add 3 y58 (.int .i64 1)) H59) fun y60 H61 =>
    S.b (up (fAddr 2 y26) H61) fun y62 H63 =>
    S.c true (S.b (ldC y62 H63) fun y64 H65 =>
    S.b (up (binB Tryd.prog .sub 3 y64 (.int .i64 1)) H65) fun y66 H67 =>
    S.b (up (slcS 1 y54 (some y60) (some y66) none) H67) fun y68 H69 =>
    S.c true (S.b (toStr y68 H69) fun y70 H71 =>
    some (y70, H71))))))
   (S.b (nilC x0 H49) fun y72 H73 =>
    S.b (up (fAddr 0 y72) H73) fun y74 H75 =>
    S.c true (S.b (ldC y74 H75) fun y76 H77 =>
    S.b (up (fAddr 1 y26) H77) fun y78 H79 =>
    S.c true (S.b (ldC y78 H79) fun y80 H81 =>
    S.b (up (fAddr 2 y26) H81) fun y82 H83 =>
    S.c true (S.b (ldC y82 H83) fun y84 H85 =>
    S.b (up (slcS 1 y76 (some y80) (some y84) none) H85) fun y86 H87 =>
    S.c true (S.b (toStr y86 H87) fun y88 H89 =>
    some (y88, H89)))))))))))

theorem f39_main (S : Seam (Value × Heap)) (C : CallF) (n : Nat) (x0 : Value) (x1 : Value) (x2 : Value) (H : Heap) : acodeK S Tryd.prog C n 62 f39_c (env0 [x0, x1, x2]) H (fin Tryd.prog Tryd.f39) = f39 S C n x0 x1 x2 H := by
  kernel_rfl


theorem f39_eq {E : Ext} (hE : E 39 = none) (n : Nat) (x0 : Value) (x1 : Value) (x2 : Value) (H : Heap) : acall Tryd.prog true E (n + 1) 39 [x0, x1, x2] H = f39 real (acall Tryd.prog true E n) n x0 x1 x2 H :=
  (acall_eq (N := 62) Tryd.func39 (by kernel_rfl) (by kernel_rfl) hE (by kernel_rfl) (by kernel_rfl)).trans (f39_main real _ n x0 x1 x2 H)

/-! (*incunable/incunableref15.reader).term -/
noncomputable def f40_c : Code := (Tryd.f40.body).getD .skip

noncomputable def f40 (S : Seam (Value × Heap)) (C : CallF) (n : Nat) (x0 : Value) (H : Heap) : Option (Value × Heap) :=
 S.b (newV [(.string ⟨#[]⟩), (.string ⟨#[]⟩), (.bool false)] H) fun y1 H2 =>
 S.b (nilC x0 H2) fun y3 H4 =>
 S.b (up (fAddr 1 y3) H4) fun y5 H6 =>
 S.c true (S.b (ldC y5 H6) fun y7 H8 =>
 S.b (nilC x0 H8) fun y9 H10 =>
 S.b (up (fAddr 2 y9) H10) fun y11 H12 =>
 S.c true (S.b (ldC y11 H12) fun y13 H14 =>
 S.b (up (iAddrS 3 y7 y13) H14) fun y15 H16 =>
 S.b (up (fAddr 0 y15) H16) fun y17 H18 =>
 S.c true (S.b (ldC y17 H18) fun y19 H20 =>
 S.b (C 39 [x0, y19, (.string ⟨#[]⟩)] H20) fun y21 H22 =>
 S.b (C 39 [x0, (.int .i64 1), (.string ⟨#[]⟩)] H22) fun y23 H24 =>
 S.b (up (binB Tryd.prog .eql 3 y19 (.int .i64 8)) H24) fun y25 H26 =>
 S.b (bld [(.string ⟨#[]⟩), (.string ⟨#[]⟩), (.bool false)] [(0, 1, y23), (2, 1, y25)] H26) fun y27 H28 =>
 S.b (newV [(.string ⟨#[]⟩), (.string ⟨#[]⟩), (.bool false)] H28) fun y29 H30 =>
 S.b (stV 3 y29 y27 H30) fun _ H31 =>
 S.b (C 39 [x0, (.int .i64 4), (.string ⟨#[61]⟩)] H31) fun y32 H33 =>
 S.b (C 39 [x0, (.int .i64 3), (.string ⟨#[]⟩)] H33) fun y34 H35 =>
 S.b (up (fAddr 1 y29) H35) fun y36 H37 =>
 S.b (stV 1 y36 y34 H37) fun _ H38 =>
 S.b (ldA 3 y29 H38) fun y39 H40 =>
 S.b (stV 3 y1 y39 H40) fun _ H41 =>
 (resM [(ldA 3 y1 H41).map (·.1)]).map fun l => (one l, H41))))

theorem f40_main (S : Seam (Value × Heap)) (C : CallF) (n : Nat) (x0 : Value) (H : Heap) : acodeK S Tryd.prog C n 30 f40_c (env0 [x0]) H (fin Tryd.prog Tryd.f40) = f40 S C n x0 H := by
  kernel_rfl


theorem f40_eq {E : Ext} (hE : E 40 = none) (n : Nat) (x0 : Value) (H : Heap) : acall Tryd.prog true E (n + 1) 40 [x0] H = f40 real (acall Tryd.prog true E n) n x0 H :=
  (acall_eq (N := 30) Tryd.func40 (by kernel_rfl) (by kernel_rfl) hE (by kernel_rfl) (by kernel_rfl)).trans (f40_main real _ n x0 H)

/-! (*incunable/incunableref15.reader).prec -/
noncomputable def f41_c : Code := (Tryd.f41.body).getD .skip

noncomputable def f41_L0 (S : Seam (Value × Heap)) (C : CallF) (n : Nat) : Nat → Value → Value → Value → Heap → Option (Value × Heap)
 | 0, _, _, _, _ => none
 | m + 1, y43, y44, y45, H46 =>
   S.b (C 62 [y43, (.int .i64 1), (.string ⟨#[]⟩)] H46) fun y47 H48 =>
   S.i y47
   (S.b (up (fAddr 1 y45) H48) fun y49 H50 =>
    S.c true (S.b (ldC y49 H50) fun y51 H52 =>
    S.b (C 39 [y43, (.int .i64 1), (.string ⟨#[]⟩)] H52) fun y53 H54 =>
    S.c (sameBlk H52 H54 (blkOf y49) && true) (S.b (bldS 1 1 [(.string ⟨#[]⟩)] [(0, 1, y53)] H54) fun y55 H56 =>
     S.b (app 1 16 y51 y55 H56) fun y57 H58 =>
     S.c true (S.b (up (fAddr 1 y45) H58) fun y59 H60 =>
      S.b (stV 1 y59 y57 H60) fun _ H61 =>
      S.c true (f41_L0 S C n m y43 y44 y45 H61)))))
   (S.b (ldA 2 y45 H48) fun y62 H63 =>
    S.b (stV 2 y44 y62 H63) fun _ H64 =>
    (resM [(ldA 2 y44 H64).map (·.1)]).map fun l => (one l, H64))

theorem f41_L0_eq (S : Seam (Value × Heap)) (C : CallF) (n : Nat) : ∀ (m : Nat) (env : Env) (H : Heap), aloopK (acodeK S Tryd.prog C n 39 (cAt f41_c [1, 1, 1, 1, 1, 0, 0, 0])) m env H (kAt S Tryd.prog C n 39 f41_c [1, 1, 1, 1, 1, 0, 0] (fin Tryd.prog Tryd.f41)) = f41_L0 S C n m (env 0) (env 2) (env 4) H := by
  intro m env H
  refine aloopK_eq (L := fun m env H => f41_L0 S C n m (env 0) (env 2) (env 4) H) (fun env H => rfl) (fun m env H => ?_) m env H
  kernel_rfl


noncomputable def f41 (S : Seam (Value × Heap)) (C : CallF) (n : Nat) (x0 : Value) (H : Heap) : Option (Value × Heap) :=
 S.b (newV [(.int .i64 0), (.slice none 0 0)] H) fun y1 H2 =>
 S.b (nilC x0 H2) fun y3 H4 =>
 S.b (up (fAddr 1 y3) H4) fun y5 H6 =>
 S.c true (S.b (ldC y5 H6) fun y7 H8 =>
 S.b (nilC x0 H8) fun y9 H10 =>
 S.b (up (fAddr 2 y9) H10) fun y11 H12 =>
 S.c true (S.b (ldC y11 H12) fun y13 H14 =>
 S.b (up (iAddrS 3 y7 y13) H14) fun y15 H16 =>
 S.b (up (fAddr 0 y15) H16) fun y17 H18 =>
 S.c true (S.b (ldC y17 H18) fun y19 H20 =>
 S.b (C 39 [x0, y19, (.string ⟨#[]⟩)] H20) fun y21 H22 =>
 S.b (up (binB Tryd.prog .sub 3 y19 (.int .i64 8)) H22) fun y23 H24 =>
 S.b (bld [(.int .i64 0), (.slice none 0 0)] [(0, 1, y23)] H24) fun y25 H26 =>
 S.b (newV [(.int .i64 0), (.slice none 0 0)] H26) fun y27 H28 =>
 S.b (stV 2 y27 y25 H28) fun _ H29 =>
 S.b (up (fAddr 1 y27) H29) fun y30 H31 =>
 S.c true (S.b (ldC y30 H31) fun y32 H33 =>
 S.b (C 39 [x0, (.int .i64 1), (.string ⟨#[]⟩)] H33) fun y34 H35 =>
 S.c (sameBlk H33 H35 (blkOf y30) && true) (S.b (bldS 1 1 [(.string ⟨#[]⟩)] [(0, 1, y34)] H35) fun y36 H37 =>
  S.b (app 1 16 y32 y36 H37) fun y38 H39 =>
  S.c true (S.b (up (fAddr 1 y27) H39) fun y40 H41 =>
   S.b (stV 1 y40 y38 H41) fun _ H42 =>
   S.c true (f41_L0 S C n n x0 y1 y27 H42)))))))

noncomputable def f41G (S : Seam (Value × Heap)) (C : CallF) (n : Nat) (P0 : Env → Heap → Option (Value × Heap)) (x0 : Value) (H : Heap) : Option (Value × Heap) :=
 S.b (newV [(.int .i64 0), (.slice none 0 0)] H) fun y65 H66 =>
 S.b (nilC x0 H66) fun y67 H68 =>
 S.b (up (fAddr 1 y67) H68) fun y69 H70 =>
 S.c true (S.b (ldC y69 H70) fun y71 H72 =>
 S.b (nilC x0 H72) fun y73 H74 =>
 S.b (up (fAddr 2 y73) H74) fun y75 H76 =>
 S.c true (S.b (ldC y75 H76) fun y77 H78 =>
 S.b (up (iAddrS 3 y71 y77) H78) fun y79 H80 =>
 S.b (up (fAddr 0 y79) H80) fun y81 H82 =>
 S.c true (S.b (ldC y81 H82) fun y83 H84 =>
 S.b (C 39 [x0, y83, (.string ⟨#[]⟩)] H84) fun y85 H86 =>
 S.b (up (binB Tryd.prog .sub 3 y83 (.int .i64 8)) H86) fun y87 H88 =>
 S.b (bld [(.int .i64 0), (.slice none 0 0)] [(0, 1, y87)] H88) fun y89 H90 =>
 S.b (newV [(.int .i64 0), (.slice none 0 0)] H90) fun y91 H92 =>
 S.b (stV 2 y91 y89 H92) fun u93 H94 =>
 S.b (up (fAddr 1 y91) H94) fun y95 H96 =>
 S.c true (S.b (ldC y95 H96) fun y97 H98 =>
 S.b (C 39 [x0, (.int .i64 1), (.string ⟨#[]⟩)] H98) fun y99 H100 =>
 S.c (sameBlk H98 H100 (blkOf y95) && true) (S.b (bldS 1 1 [(.string ⟨#[]⟩)] [(0, 1, y99)] H100) fun y101 H102 =>
  S.b (app 1 16 y97 y101 H102) fun y103 H104 =>
  S.c true (S.b (up (fAddr 1 y91) H104) fun y105 H106 =>
   S.b (stV 1 y105 y103 H106) fun u107 H108 =>
   S.c true (P0 (putE 39 (putE 39 (putE 39 (putE 39 (putE 39 (putE 39 (putE 39 (putE 39 (putE 39 (putE 39 (putE 39 (putE 39 (putE 39 (putE 39 (putE 39 (putE 39 (putE 39 (putE 39 (putE 39 (putE 39 (putE 39 (putE 39 (putE 39 (putE 39 (putE 39 (putE 39 (putE 39 (putE 39 (putE 39 (env0 [x0]) (some 2) y65) (some 5) x0) (some 6) y67) (some 7) y69) (some 8) y71) (some 9) x0) (some 10) y73) (some 11) y75) (some 12) y77) (some 13) y79) (some 14) y81) (some 15) y83) (some 3) y83) (some 16) x0) (some 17) y83) (some 18) y85) (some 19) y83) (some 20) y87) (some 21) y89) (some 4) y91) none u93) (some 22) y95) (some 23) y97) (some 24) x0) (some 25) y99) (some 26) y101) (some 27) y103) (some 28) y105) none u107) H108)))))))

theorem f41_main (S : Seam (Value × Heap)) (C : CallF) (n : Nat) (x0 : Value) (H : Heap) : acodeK S Tryd.prog C n 39 f41_c (env0 [x0]) H (fin Tryd.prog Tryd.f41) = f41 S C n x0 H := by
  have h1 : acodeK S Tryd.prog C n 39 f41_c (env0 [x0]) H (fin Tryd.prog Tryd.f41) = f41G S C n (fun env H => aloopK (acodeK S Tryd.prog C n 39 (cAt f41_c [1, 1, 1, 1, 1, 0, 0, 0])) n env H (kAt S Tryd.prog C n 39 f41_c [1, 1, 1, 1, 1, 0, 0] (fin Tryd.prog Tryd.f41))) x0 H := by kernel_rfl
  have e0 : (fun env H => aloopK (acodeK S Tryd.prog C n 39 (cAt f41_c [1, 1, 1, 1, 1, 0, 0, 0])) n env H (kAt S Tryd.prog C n 39 f41_c [1, 1, 1, 1, 1, 0, 0] (fin Tryd.prog Tryd.f41))) = (fun env H => f41_L0 S C n n (env 0) (env 2) (env 4) H) := by funext env H; exact f41_L0_eq S C n n env H
  rw [e0] at h1
  exact h1.trans (by kernel_rfl)


theorem f41_eq {E : Ext} (hE : E 41 = none) (n : Nat) (x0 : Value) (H : Heap) : acall Tryd.prog true E (n + 1) 41 [x0] H = f41 real (acall Tryd.prog true E n) n x0 H :=
  (acall_eq (N := 39) Tryd.func41 (by kernel_rfl) (by kernel_rfl) hE (by kernel_rfl) (by kernel_rfl)).trans (f41_main real _ n x0 H)

/-! (*incunable/incunableref15.reader).rule -/
noncomputable def f42_c : Code := (Tryd.f42.body).getD .skip

noncomputable def f42_L0 (S : Seam (Value × Heap)) (C : CallF) (n : Nat) : Nat → Value → Value → Value → Heap → Option (Value × Heap)
 | 0, _, _, _, _ => none
 | m + 1, y27, y28, y29, H30 =>
   S.b (C 62 [y27, (.int .i64 4), (.string ⟨#[124]⟩)] H30) fun y31 H32 =>
   S.i y31
   (S.b (C 39 [y27, (.int .i64 4), (.string ⟨#[124]⟩)] H32) fun y33 H34 =>
    S.b (up (fAddr 1 y29) H34) fun y35 H36 =>
    S.c true (S.b (ldC y35 H36) fun y37 H38 =>
    S.b (C 63 [y27] H38) fun y39 H40 =>
    S.c (sameBlk H38 H40 (blkOf y35) && true) (S.b (bldS 2 1 [(.slice none 0 0), (.string ⟨#[]⟩)] [(0, 2, y39)] H40) fun y41 H42 =>
     S.b (app 2 40 y37 y41 H42) fun y43 H44 =>
     S.c true (S.b (up (fAddr 1 y29) H44) fun y45 H46 =>
      S.b (stV 1 y45 y43 H46) fun _ H47 =>
      S.c true (f42_L0 S C n m y27 y28 y29 H47)))))
   (S.b (ldA 2 y29 H32) fun y48 H49 =>
    S.b (stV 2 y28 y48 H49) fun _ H50 =>
    (resM [(ldA 2 y28 H50).map (·.1)]).map fun l => (one l, H50))

theorem f42_L0_eq (S : Seam (Value × Heap)) (C : CallF) (n : Nat) : ∀ (m : Nat) (env : Env) (H : Heap), aloopK (acodeK S Tryd.prog C n 30 (cAt f42_c [1, 1, 1, 1, 1, 0, 0, 0])) m env H (kAt S Tryd.prog C n 30 f42_c [1, 1, 1, 1, 1, 0, 0] (fin Tryd.prog Tryd.f42)) = f42_L0 S C n m (env 0) (env 2) (env 3) H := by
  intro m env H
  refine aloopK_eq (L := fun m env H => f42_L0 S C n m (env 0) (env 2) (env 3) H) (fun env H => rfl) (fun m env H => ?_) m env H
  kernel_rfl


noncomputable def f42 (S : Seam (Value × Heap)) (C : CallF) (n : Nat) (x0 : Value) (H : Heap) : Option (Value × Heap) :=
 S.b (newV [(.string ⟨#[]⟩), (.slice none 0 0)] H) fun y1 H2 =>
 S.b (C 39 [x0, (.int .i64 12), (.string ⟨#[]⟩)] H2) fun y3 H4 =>
 S.b (C 39 [x0, (.int .i64 1), (.string ⟨#[]⟩)] H4) fun y5 H6 =>
 S.b (bld [(.string ⟨#[]⟩), (.slice none 0 0)] [(0, 1, y5)] H6) fun y7 H8 =>
 S.b (newV [(.string ⟨#[]⟩), (.slice none 0 0)] H8) fun y9 H10 =>
 S.b (stV 2 y9 y7 H10) fun _ H11 =>
 S.b (C 39 [x0, (.int .i64 4), (.string ⟨#[58]⟩)] H11) fun y12 H13 =>
 S.b (up (fAddr 1 y9) H13) fun y14 H15 =>
 S.c true (S.b (ldC y14 H15) fun y16 H17 =>
 S.b (C 63 [x0] H17) fun y18 H19 =>
 S.c (sameBlk H17 H19 (blkOf y14) && true) (S.b (bldS 2 1 [(.slice none 0 0), (.string ⟨#[]⟩)] [(0, 2, y18)] H19) fun y20 H21 =>
  S.b (app 2 40 y16 y20 H21) fun y22 H23 =>
  S.c true (S.b (up (fAddr 1 y9) H23) fun y24 H25 =>
   S.b (stV 1 y24 y22 H25) fun _ H26 =>
   S.c true (f42_L0 S C n n x0 y1 y9 H26))))

noncomputable def f42G (S : Seam (Value × Heap)) (C : CallF) (n : Nat) (P0 : Env → Heap → Option (Value × Heap)) (x0 : Value) (H : Heap) : Option (Value × Heap) :=
 S.b (newV [(.string ⟨#[]⟩), (.slice none 0 0)] H) fun y51 H52 =>
 S.b (C 39 [x0, (.int .i64 12), (.string ⟨#[]⟩)] H52) fun y53 H54 =>
 S.b (C 39 [x0, (.int .i64 1), (.string ⟨#[]⟩)] H54) fun y55 H56 =>
 S.b (bld [(.string ⟨#[]⟩), (.slice none 0 0)] [(0, 1, y55)] H56) fun y57 H58 =>
 S.b (newV [(.string ⟨#[]⟩), (.slice none 0 0)] H58) fun y59 H60 =>
 S.b (stV 2 y59 y57 H60) fun u61 H62 =>
 S.b (C 39 [x0, (.int .i64 4), (.string ⟨#[58]⟩)] H62) fun y63 H64 =>
 S.b (up (fAddr 1 y59) H64) fun y65 H66 =>
 S.c true (S.b (ldC y65 H66) fun y67 H68 =>
 S.b (C 63 [x0] H68) fun y69 H70 =>
 S.c (sameBlk H68 H70 (blkOf y65) && true) (S.b (bldS 2 1 [(.slice none 0 0), (.string ⟨#[]⟩)] [(0, 2, y69)] H70) fun y71 H72 =>
  S.b (app 2 40 y67 y71 H72) fun y73 H74 =>
  S.c true (S.b (up (fAddr 1 y59) H74) fun y75 H76 =>
   S.b (stV 1 y75 y73 H76) fun u77 H78 =>
   S.c true (P0 (putE 30 (putE 30 (putE 30 (putE 30 (putE 30 (putE 30 (putE 30 (putE 30 (putE 30 (putE 30 (putE 30 (putE 30 (putE 30 (putE 30 (putE 30 (putE 30 (putE 30 (putE 30 (env0 [x0]) (some 2) y51) (some 4) x0) (some 5) y53) (some 6) x0) (some 7) y55) (some 8) y57) (some 3) y59) none u61) (some 9) x0) (some 10) y63) (some 11) y65) (some 12) y67) (some 13) x0) (some 14) y69) (some 15) y71) (some 16) y73) (some 17) y75) none u77) H78))))

theorem f42_main (S : Seam (Value × Heap)) (C : CallF) (n : Nat) (x0 : Value) (H : Heap) : acodeK S Tryd.prog C n 30 f42_c (env0 [x0]) H (fin Tryd.prog Tryd.f42) = f42 S C n x0 H := by
  have h1 : acodeK S Tryd.prog C n 30 f42_c (env0 [x0]) H (fin Tryd.prog Tryd.f42) = f42G S C n (fun env H => aloopK (acodeK S Tryd.prog C n 30 (cAt f42_c [1, 1, 1, 1, 1, 0, 0, 0])) n env H (kAt S Tryd.prog C n 30 f42_c [1, 1, 1, 1, 1, 0, 0] (fin Tryd.prog Tryd.f42))) x0 H := by kernel_rfl
  have e0 : (fun env H => aloopK (acodeK S Tryd.prog C n 30 (cAt f42_c [1, 1, 1, 1, 1, 0, 0, 0])) n env H (kAt S Tryd.prog C n 30 f42_c [1, 1, 1, 1, 1, 0, 0] (fin Tryd.prog Tryd.f42))) = (fun env H => f42_L0 S C n n (env 0) (env 2) (env 3) H) := by funext env H; exact f42_L0_eq S C n n env H
  rw [e0] at h1
  exact h1.trans (by kernel_rfl)


theorem f42_eq {E : Ext} (hE : E 42 = none) (n : Nat) (x0 : Value) (H : Heap) : acall Tryd.prog true E (n + 1) 42 [x0] H = f42 real (acall Tryd.prog true E n) n x0 H :=
  (acall_eq (N := 30) Tryd.func42 (by kernel_rfl) (by kernel_rfl) hE (by kernel_rfl) (by kernel_rfl)).trans (f42_main real _ n x0 H)

/-! bytes.trimLeftByte -/
noncomputable def f43_c : Code := (Tryd.f43.body).getD .skip

noncomputable def f43_L0 (S : Seam (Value × Heap)) (C : CallF) (n : Nat) : Nat → Value → Value → Heap → Option (Value × Heap)
 | 0, _, _, _ => none
 | m + 1, y1, y2, H3 =>
   S.b (up (lenS y1) H3) fun y4 H5 =>
   S.b (up (binB Tryd.prog .gtr 3 y4 (.int .i64 0)) H5) fun y6 H7 =>
   S.b (gd (wd y6 true) (some (y1, H7)) H7) fun y8 H9 =>
   S.b (gd (wd y6 true) (up (iAddrS 1 y8 (.int .i64 0)) H9) H9) fun y10 H11 =>
   S.b (gd (wd y6 true) (ldC y10 H11) H11) fun y12 H13 =>
   S.b (gd (wd y6 true) (some (y2, H13)) H13) fun y14 H15 =>
   S.b (gd (wd y6 true) (up (binB Tryd.prog .eql 5 y12 y14) H15) H15) fun y16 H17 =>
   S.b (pickV y6 y16 (.bool false) H17) fun y18 H19 =>
   S.i y18
   (S.b (up (slcS 1 y1 (some (.int .i64 1)) none none) H19) fun y20 H21 =>
    f43_L0 S C n m y20 y2 H21)
   (S.b (up (lenS y1) H19) fun y22 H23 =>
    S.b (up (binB Tryd.prog .eql 3 y22 (.int .i64 0)) H23) fun y24 H25 =>
    S.i y24
    (some ((.slice none 0 0), H25))
    (some (y1, H25)))

theorem f43_L0_eq (S : Seam (Value × Heap)) (C : CallF) (n : Nat) : ∀ (m : Nat) (env : Env) (H : Heap), aloopK (acodeK S Tryd.prog C n 21 (cAt f43_c [1, 0, 0, 0])) m env H (kAt S Tryd.prog C n 21 f43_c [1, 0, 0] (fin Tryd.prog Tryd.f43)) = f43_L0 S C n m (env 0) (env 1) H := by
  intro m env H
  refine aloopK_eq (L := fun m env H => f43_L0 S C n m (env 0) (env 1) H) (fun env H => rfl) (fun m env H => ?_) m env H
  kernel_rfl


noncomputable def f43 (S : Seam (Value × Heap)) (C : CallF) (n : Nat) (x0 : Value) (x1 : Value) (H : Heap) : Option (Value × Heap) :=
 f43_L0 S C n n x0 x1 H

noncomputable def f43G (S : Seam (Value × Heap)) (C : CallF) (n : Nat) (P0 : Env → Heap → Option (Value × Heap)) (x0 : Value) (x1 : Value) (H : Heap) : Option (Value × Heap) :=
 P0 (putE 21 (env0 [x0, x1]) (some 4) (.slice none 0 0)) H

theorem f43_main (S : Seam (Value × Heap)) (C : CallF) (n : Nat) (x0 : Value) (x1 : Value) (H : Heap) : acodeK S Tryd.prog C n 21 f43_c (env0 [x0, x1]) H (fin Tryd.prog Tryd.f43) = f43 S C n x0 x1 H := by
  have h1 : acodeK S Tryd.prog C n 21 f43_c (env0 [x0, x1]) H (fin Tryd.prog Tryd.f43) = f43G S C n (fun env H => aloopK (acodeK S Tryd.prog C n 21 (cAt f43_c [1, 0, 0, 0])) n env H (kAt S Tryd.prog C n 21 f43_c [1, 0, 0] (fin Tryd.prog Tryd.f43))) x0 x1 H := by kernel_rfl
  have e0 : (fun env H => aloopK (acodeK S Tryd.prog C n 21 (cAt f43_c [1, 0, 0, 0])) n env H (kAt S Tryd.prog C n 21 f43_c [1, 0, 0] (fin Tryd.prog Tryd.f43))) = (fun env H => f43_L0 S C n n (env 0) (env 1) H) := by funext env H; exact f43_L0_eq S C n n env H
  rw [e0] at h1
  exact h1.trans (by kernel_rfl)


theorem f43_eq {E : Ext} (hE : E 43 = none) (n : Nat) (x0 : Value) (x1 : Value) (H : Heap) : acall Tryd.prog true E (n + 1) 43 [x0, x1] H = f43 real (acall Tryd.prog true E n) n x0 x1 H :=
  (acall_eq (N := 21) Tryd.func43 (by kernel_rfl) (by kernel_rfl) hE (by kernel_rfl) (by kernel_rfl)).trans (f43_main real _ n x0 x1 H)

/-! bytes.makeASCIISet -/
noncomputable def f44_c : Code := (Tryd.f44.body).getD .skip

noncomputable def f44_L0 (S : Seam (Value × Heap)) (C : CallF) (n : Nat) : Nat → Value → Value → Value → Heap → Option (Value × Heap)
 | 0, _, _, _, _ => none
 | m + 1, y3, y4, y5, H6 =>
   S.b (up (lenStr y3) H6) fun y7 H8 =>
   S.b (up (binB Tryd.prog .lss 3 y5 y7) H8) fun y9 H10 =>
   S.i y9
   (S.b (up (idxS y3 y5) H10) fun y11 H12 =>
    S.b (up (binB Tryd.prog .geq 5 y11 (.int .u8 128)) H12) fun y13 H14 =>
    S.i y13
    (S.b (ldA 256 y4 H14) fun y15 H16 =>
     S.b (stV 256 y4 y15 H16) fun _ H17 =>
     (resM [(ldA 256 y4 H17).map (·.1), some (.bool false)]).map fun l => (one l, H17))
    (S.b (up (iAddrA 256 1 y4 y11) H14) fun y18 H19 =>
     S.b (stV 1 y18 (.bool true) H19) fun _ H20 =>
     S.b (up (binB Tryd.prog .add 3 y5 (.int .i64 1)) H20) fun y21 H22 =>
     f44_L0 S C n m y3 y4 y21 H22))
   (S.b (ldA 256 y4 H10) fun y23 H24 =>
    S.b (stV 256 y4 y23 H24) fun _ H25 =>
    (resM [(ldA 256 y4 H25).map (·.1), some (.bool true)]).map fun l => (one l, H25))

theorem f44_L0_eq (S : Seam (Value × Heap)) (C : CallF) (n : Nat) : ∀ (m : Nat) (env : Env) (H : Heap), aloopK (acodeK S Tryd.prog C n 21 (cAt f44_c [1, 0, 1, 0, 0])) m env H (kAt S Tryd.prog C n 21 f44_c [1, 0, 1, 0] (fin Tryd.prog Tryd.f44)) = f44_L0 S C n m (env 0) (env 2) (env 4) H := by
  intro m env H
  refine aloopK_eq (L := fun m env H => f44_L0 S C n m (env 0) (env 2) (env 4) H) (fun env H => rfl) (fun m env H => ?_) m env H
  kernel_rfl


noncomputable def f44 (S : Seam (Value × Heap)) (C : CallF) (n : Nat) (x0 : Value) (H : Heap) : Option (Value × Heap) :=
 S.b (newV (rep 256 [(.bool false)]) H) fun y1 H2 =>
 f44_L0 S C n n x0 y1 (.int .i64 0) H2

noncomputable def f44G (S : Seam (Value × Heap)) (C : CallF) (n : Nat) (P0 : Env → Heap → Option (Value × Heap)) (x0 : Value) (H : Heap) : Option (Value × Heap) :=
 S.b (newV (rep 256 [(.bool false)]) H) fun y26 H27 =>
 P0 (putE 21 (putE 21 (putE 21 (env0 [x0]) (some 2) y26) (some 3) (.bool false)) (some 4) (.int .i64 0)) H27

theorem f44_main (S : Seam (Value × Heap)) (C : CallF) (n : Nat) (x0 : Value) (H : Heap) : acodeK S Tryd.prog C n 21 f44_c (env0 [x0]) H (fin Tryd.prog Tryd.f44) = f44 S C n x0 H := by
  have h1 : acodeK S Tryd.prog C n 21 f44_c (env0 [x0]) H (fin Tryd.prog Tryd.f44) = f44G S C n (fun env H => aloopK (acodeK S Tryd.prog C n 21 (cAt f44_c [1, 0, 1, 0, 0])) n env H (kAt S Tryd.prog C n 21 f44_c [1, 0, 1, 0] (fin Tryd.prog Tryd.f44))) x0 H := by kernel_rfl
  have e0 : (fun env H => aloopK (acodeK S Tryd.prog C n 21 (cAt f44_c [1, 0, 1, 0, 0])) n env H (kAt S Tryd.prog C n 21 f44_c [1, 0, 1, 0] (fin Tryd.prog Tryd.f44))) = (fun env H => f44_L0 S C n n (env 0) (env 2) (env 4) H) := by funext env H; exact f44_L0_eq S C n n env H
  rw [e0] at h1
  exact h1.trans (by kernel_rfl)


theorem f44_eq {E : Ext} (hE : E 44 = none) (n : Nat) (x0 : Value) (H : Heap) : acall Tryd.prog true E (n + 1) 44 [x0] H = f44 real (acall Tryd.prog true E n) n x0 H :=
  (acall_eq (N := 21) Tryd.func44 (by kernel_rfl) (by kernel_rfl) hE (by kernel_rfl) (by kernel_rfl)).trans (f44_main real _ n x0 H)

/-! bytes.trimLeftASCII -/
noncomputable def f45_c : Code := (Tryd.f45.body).getD .skip

noncomputable def f45_J1 (S : Seam (Value × Heap)) (C : CallF) (n : Nat) (y18 : Value) (H19 : Heap) : Option (Value × Heap) :=
 S.b (up (lenS y18) H19) fun y20 H21 =>
 S.b (up (binB Tryd.prog .eql 3 y20 (.int .i64 0)) H21) fun y22 H23 =>
 S.i y22
 (some ((.slice none 0 0), H23))
 (some (y18, H23))

noncomputable def f45_L0 (S : Seam (Value × Heap)) (C : CallF) (n : Nat) : Nat → Value → Value → Heap → Option (Value × Heap)
 | 0, _, _, _ => none
 | m + 1, y1, y2, H3 =>
   S.b (up (lenS y1) H3) fun y4 H5 =>
   S.b (up (binB Tryd.prog .gtr 3 y4 (.int .i64 0)) H5) fun y6 H7 =>
   S.i y6
   (S.b (up (iAddrS 1 y1 (.int .i64 0)) H7) fun y8 H9 =>
    S.b (ldC y8 H9) fun y10 H11 =>
    S.b (C 64 [y2, y10] H11) fun y12 H13 =>
    S.b (up (unB .not y12) H13) fun y14 H15 =>
    S.i y14
    (f45_J1 S C n y1 H15)
    (S.b (up (slcS 1 y1 (some (.int .i64 1)) none none) H15) fun y24 H25 =>
     f45_L0 S C n m y24 y2 H25))
   (f45_J1 S C n y1 H7)

theorem f45_L0_eq (S : Seam (Value × Heap)) (C : CallF) (n : Nat) : ∀ (m : Nat) (env : Env) (H : Heap), aloopK (acodeK S Tryd.prog C n 20 (cAt f45_c [1, 0, 0, 0])) m env H (kAt S Tryd.prog C n 20 f45_c [1, 0, 0] (fin Tryd.prog Tryd.f45)) = f45_L0 S C n m (env 0) (env 1) H := by
  intro m env H
  refine aloopK_eq (L := fun m env H => f45_L0 S C n m (env 0) (env 1) H) (fun env H => rfl) (fun m env H => ?_) m env H
  kernel_rfl


noncomputable def f45 (S : Seam (Value × Heap)) (C : CallF) (n : Nat) (x0 : Value) (x1 : Value) (H : Heap) : Option (Value × Heap) :=
 f45_L0 S C n n x0 x1 H

noncomputable def f45G (S : Seam (Value × Heap)) (C : CallF) (n : Nat) (P0 : Env → Heap → Option (Value × Heap)) (x0 : Value) (x1 : Value) (H : Heap) : Option (Value × Heap) :=
 P0 (putE 20 (env0 [x0, x1]) (some 4) (.slice none 0 0)) H

theorem f45_main (S : Seam (Value × Heap)) (C : CallF) (n : Nat) (x0 : Value) (x1 : Value) (H : Heap) : acodeK S Tryd.prog C n 20 f45_c (env0 [x0, x1]) H (fin Tryd.prog Tryd.f45) = f45 S C n x0 x1 H := by
  have h1 : acodeK S Tryd.prog C n 20 f45_c (env0 [x0, x1]) H (fin Tryd.prog Tryd.f45) = f45G S C n (fun env H => aloopK (acodeK S Tryd.prog C n 20 (cAt f45_c [1, 0, 0, 0])) n env H (kAt S Tryd.prog C n 20 f45_c [1, 0, 0] (fin Tryd.prog Tryd.f45))) x0 x1 H := by kernel_rfl
  have e0 : (fun env H => aloopK (acodeK S Tryd.prog C n 20 (cAt f45_c [1, 0, 0, 0])) n env H (kAt S Tryd.prog C n 20 f45_c [1, 0, 0] (fin Tryd.prog Tryd.f45))) = (fun env H => f45_L0 S C n n (env 0) (env 1) H) := by funext env H; exact f45_L0_eq S C n n env H
  rw [e0] at h1
  exact h1.trans (by kernel_rfl)


theorem f45_eq {E : Ext} (hE : E 45 = none) (n : Nat) (x0 : Value) (x1 : Value) (H : Heap) : acall Tryd.prog true E (n + 1) 45 [x0, x1] H = f45 real (acall Tryd.prog true E n) n x0 x1 H :=
  (acall_eq (N := 20) Tryd.func45 (by kernel_rfl) (by kernel_rfl) hE (by kernel_rfl) (by kernel_rfl)).trans (f45_main real _ n x0 x1 H)

/-! bytes.Index -/
noncomputable def f47_c : Code := (Tryd.f47.body).getD .skip

noncomputable def f47_J1 (S : Seam (Value × Heap)) (C : CallF) (n : Nat) (R0 : Value→Value→Value→Value→Value→Value→Value→Value→Heap→Option (Value × Heap)) (y76 y77 y78 y79 y80 y81 y82 y83 : Value) (H84 : Heap) : Option (Value × Heap) :=
 S.b (up (binB Tryd.prog .add 3 y81 (.int .i64 1)) H84) fun y85 H86 =>
 S.b (up (iAddrS 1 y76 y85) H86) fun y87 H88 =>
 S.b (ldC y87 H88) fun y89 H90 =>
 S.b (up (binB Tryd.prog .eql 5 y89 y80) H90) fun y91 H92 =>
 S.b (gd (wd y91 true) (some (y76, H92)) H92) fun y93 H94 =>
 S.b (gd (wd y91 true) (some (y81, H94)) H94) fun y95 H96 =>
 S.b (gd (wd y91 true) (some (y81, H96)) H96) fun y97 H98 =>
 S.b (gd (wd y91 true) (some (y78, H98)) H98) fun y99 H100 =>
 S.b (gd (wd y91 true) (up (binB Tryd.prog .add 3 y97 y99) H100) H100) fun y101 H102 =>
 S.b (gd (wd y91 true) (up (slcS 1 y93 (some y95) (some y101) none) H102) H102) fun y103 H104 =>
 S.b (gd (wd y91 true) (some (y77, H104)) H104) fun y105 H106 =>
 S.b (gd (wd y91 true) (C 68 [y103, y105] H106) H106) fun y107 H108 =>
 S.b (pickV y91 y107 (.bool false) H108) fun y109 H110 =>
 S.i y109
 (some (y81, H110))
 (S.b (up (binB Tryd.prog .add 3 y83 (.int .i64 1)) H110) fun y111 H112 =>
  S.b (up (binB Tryd.prog .add 3 y81 (.int .i64 1)) H112) fun y113 H114 =>
  S.b (C 70 [y113] H114) fun y115 H116 =>
  S.b (up (binB Tryd.prog .gtr 3 y111 y115) H116) fun y117 H118 =>
  S.i y117
  (S.b (up (slcS 1 y76 (some y113) none none) H118) fun y119 H120 =>
   S.b (C 69 [y119, y77] H120) fun y121 H122 =>
   S.b (up (binB Tryd.prog .geq 3 y121 (.int .i64 0)) H122) fun y123 H124 =>
   S.i y123
   (S.b (up (binB Tryd.prog .add 3 y121 y113) H124) fun y125 H126 =>
    some (y125, H126))
   (some ((.int .i64 (-1)), H124)))
  (R0 y76 y77 y78 y79 y80 y113 y82 y111 H118))

noncomputable def f47_L0 (S : Seam (Value × Heap)) (C : CallF) (n : Nat) : Nat → Value → Value → Value → Value → Value → Value → Value → Value → Heap → Option (Value × Heap)
 | 0, _, _, _, _, _, _, _, _, _ => none
 | m + 1, y47, y48, y49, y50, y51, y52, y53, y54, H55 =>
   S.b (up (binB Tryd.prog .lss 3 y52 y53) H55) fun y56 H57 =>
   S.i y56
   (S.b (up (iAddrS 1 y47 y52) H57) fun y58 H59 =>
    S.b (ldC y58 H59) fun y60 H61 =>
    S.b (up (binB Tryd.prog .neq 5 y60 y50) H61) fun y62 H63 =>
    S.i y62
    (S.b (up (binB Tryd.prog .add 3 y52 (.int .i64 1)) H63) fun y64 H65 =>
     S.b (up (slcS 1 y47 (some y64) (some y53) none) H65) fun y66 H67 =>
     S.b (C 67 [y66, y50] H67) fun y68 H69 =>
     S.b (up (binB Tryd.prog .lss 3 y68 (.int .i64 0)) H69) fun y70 H71 =>
     S.i y70
     (some ((.int .i64 (-1)), H71))
     (S.b (up (binB Tryd.prog .add 3 y68 (.int .i64 1)) H71) fun y72 H73 =>
      S.b (up (binB Tryd.prog .add 3 y52 y72) H73) fun y74 H75 =>
      f47_J1 S C n (f47_L0 S C n m) y47 y48 y49 y50 y51 y74 y53 y54 H75))
    (f47_J1 S C n (f47_L0 S C n m) y47 y48 y49 y50 y51 y52 y53 y54 H63))
   (some ((.int .i64 (-1)), H57))

theorem f47_L0_eq (S : Seam (Value × Heap)) (C : CallF) (n : Nat) : ∀ (m : Nat) (env : Env) (H : Heap), aloopK (acodeK S Tryd.prog C n 200 (cAt f47_c [1, 1, 0, 0, 1, 1, 1, 1, 1, 1, 1, 1, 1, 0, 1, 1, 1, 1, 1, 1, 0, 0, 0])) m env H (kAt S Tryd.prog C n 200 f47_c [1, 1, 0, 0, 1, 1, 1, 1, 1, 1, 1, 1, 1, 0, 1, 1, 1, 1, 1, 1, 0, 0] (fin Tryd.prog Tryd.f47)) = f47_L0 S C n m (env 0) (env 1) (env 5) (env 6) (env 7) (env 8) (env 9) (env 10) H := by
  intro m env H
  refine aloopK_eq (L := fun m env H => f47_L0 S C n m (env 0) (env 1) (env 5) (env 6) (env 7) (env 8) (env 9) (env 10) H) (fun env H => rfl) (fun m env H => ?_) m env H
  kernel_rfl


noncomputable def f47_J2 (S : Seam (Value × Heap)) (C : CallF) (n : Nat) (R1 : Value→Value→Value→Value→Value→Value→Value→Value→Heap→Option (Value × Heap)) (y172 y173 y174 y175 y176 y177 y178 y179 : Value) (H180 : Heap) : Option (Value × Heap) :=
 S.b (up (binB Tryd.prog .add 3 y177 (.int .i64 1)) H180) fun y181 H182 =>
 S.b (up (iAddrS 1 y172 y181) H182) fun y183 H184 =>
 S.b (ldC y183 H184) fun y185 H186 =>
 S.b (up (binB Tryd.prog .eql 5 y185 y176) H186) fun y187 H188 =>
 S.b (gd (wd y187 true) (some (y172, H188)) H188) fun y189 H190 =>
 S.b (gd (wd y187 true) (some (y177, H190)) H190) fun y191 H192 =>
 S.b (gd (wd y187 true) (some (y177, H192)) H192) fun y193 H194 =>
 S.b (gd (wd y187 true) (some (y174, H194)) H194) fun y195 H196 =>
 S.b (gd (wd y187 true) (up (binB Tryd.prog .add 3 y193 y195) H196) H196) fun y197 H198 =>
 S.b (gd (wd y187 true) (up (slcS 1 y189 (some y191) (some y197) none) H198) H198) fun y199 H200 =>
 S.b (gd (wd y187 true) (some (y173, H200)) H200) fun y201 H202 =>
 S.b (gd (wd y187 true) (C 68 [y199, y201] H202) H202) fun y203 H204 =>
 S.b (pickV y187 y203 (.bool false) H204) fun y205 H206 =>
 S.i y205
 (some (y177, H206))
 (S.b (up (binB Tryd.prog .add 3 y177 (.int .i64 1)) H206) fun y207 H208 =>
  S.b (up (binB Tryd.prog .add 3 y178 (.int .i64 1)) H208) fun y209 H210 =>
  S.b (up (binB Tryd.prog .shr 3 y207 (.int .u64 4)) H210) fun y211 H212 =>
  S.b (up (binB Tryd.prog .add 3 (.int .i64 4) y211) H212) fun y213 H214 =>
  S.b (up (binB Tryd.prog .geq 3 y209 y213) H214) fun y215 H216 =>
  S.b (gd (wd y215 true) (some (y207, H216)) H216) fun y217 H218 =>
  S.b (gd (wd y215 true) (some (y179, H218)) H218) fun y219 H220 =>
  S.b (gd (wd y215 true) (up (binB Tryd.prog .lss 3 y217 y219) H220) H220) fun y221 H222 =>
  S.b (pickV y215 y221 (.bool false) H222) fun y223 H224 =>
  S.i y223
  (S.b (up (slcS 1 y172 (some y207) none none) H224) fun y225 H226 =>
   S.b (C 71 [y225, y173] H226) fun y227 H228 =>
   S.b (up (binB Tryd.prog .lss 3 y227 (.int .i64 0)) H228) fun y229 H230 =>
   S.i y229
   (some ((.int .i64 (-1)), H230))
   (S.b (up (binB Tryd.prog .add 3 y207 y227) H230) fun y231 H232 =>
    some (y231, H232)))
  (R1 y172 y173 y174 y175 y176 y207 y209 y179 H224))

noncomputable def f47_L1 (S : Seam (Value × Heap)) (C : CallF) (n : Nat) : Nat → Value → Value → Value → Value → Value → Value → Value → Value → Heap → Option (Value × Heap)
 | 0, _, _, _, _, _, _, _, _, _ => none
 | m + 1, y141, y142, y143, y144, y145, y146, y147, y148, H149 =>
   S.b (up (binB Tryd.prog .lss 3 y146 y148) H149) fun y150 H151 =>
   S.i y150
   (S.b (up (iAddrS 1 y141 y146) H151) fun y152 H153 =>
    S.b (ldC y152 H153) fun y154 H155 =>
    S.b (up (binB Tryd.prog .neq 5 y154 y144) H155) fun y156 H157 =>
    S.i y156
    (S.b (up (binB Tryd.prog .add 3 y146 (.int .i64 1)) H157) fun y158 H159 =>
     S.b (up (slcS 1 y141 (some y158) (some y148) none) H159) fun y160 H161 =>
     S.b (C 67 [y160, y144] H161) fun y162 H163 =>
     S.b (up (binB Tryd.prog .lss 3 y162 (.int .i64 0)) H163) fun y164 H165 =>
     S.i y164
     (some ((.int .i64 (-1)), H165))
     (S.b (up (binB Tryd.prog .add 3 y162 (.int .i64 1)) H165) fun y168 H169 =>
      S.b (up (binB Tryd.prog .add 3 y146 y168) H169) fun y170 H171 =>
      f47_J2 S C n (f47_L1 S C n m) y141 y142 y143 y144 y145 y170 y147 y148 H171))
    (f47_J2 S C n (f47_L1 S C n m) y141 y142 y143 y144 y145 y146 y147 y148 H157))
   (some ((.int .i64 (-1)), H151))

theorem f47_L1_eq (S : Seam (Value × Heap)) (C : CallF) (n : Nat) : ∀ (m : Nat) (env : Env) (H : Heap), aloopK (acodeK S Tryd.prog C n 200 (cAt f47_c [1, 1, 1, 1, 1, 1, 1, 1, 0, 0, 0])) m env H (kAt S Tryd.prog C n 200 f47_c [1, 1, 1, 1, 1, 1, 1, 1, 0, 0] (fin Tryd.prog Tryd.f47)) = f47_L1 S C n m (env 0) (env 1) (env 5) (env 13) (env 14) (env 15) (env 16) (env 17) H := by
  intro m env H
  refine aloopK_eq (L := fun m env H => f47_L1 S C n m (env 0) (env 1) (env 5) (env 13) (env 14) (env 15) (env 16) (env 17) H) (fun env H => rfl) (fun m env H => ?_) m env H
  kernel_rfl


noncomputable def f47 (S : Seam (Value × Heap)) (C : CallF) (n : Nat) (x0 : Value) (x1 : Value) (H : Heap) : Option (Value × Heap) :=
 S.b (up (lenS x1) H) fun y1 H2 =>
 S.b (up (binB Tryd.prog .eql 3 y1 (.int .i64 0)) H2) fun y3 H4 =>
 S.i y3
 (some ((.int .i64 0), H4))
 (S.b (up (binB Tryd.prog .eql 3 y1 (.int .i64 1)) H4) fun y5 H6 =>
  S.i y5
  (S.b (up (iAddrS 1 x1 (.int .i64 0)) H6) fun y7 H8 =>
   S.b (ldC y7 H8) fun y9 H10 =>
   S.b (C 67 [x0, y9] H10) fun y11 H12 =>
   some (y11, H12))
  (S.b (up (lenS x0) H6) fun y13 H14 =>
   S.b (up (binB Tryd.prog .eql 3 y1 y13) H14) fun y15 H16 =>
   S.i y15
   (S.b (C 68 [x1, x0] H16) fun y17 H18 =>
    S.i y17
    (some ((.int .i64 0), H18))
    (some ((.int .i64 (-1)), H18)))
   (S.b (up (lenS x0) H16) fun y19 H20 =>
    S.b (up (binB Tryd.prog .gtr 3 y1 y19) H20) fun y21 H22 =>
    S.i y21
    (some ((.int .i64 (-1)), H22))
    (S.b (ldC (.pointer (some ⟨1, 0, none⟩)) H22) fun y23 H24 =>
     S.b (up (binB Tryd.prog .leq 3 y1 y23) H24) fun y25 H26 =>
     S.i y25
     (S.b (up (lenS x0) H26) fun y27 H28 =>
      S.b (up (binB Tryd.prog .leq 3 y27 (.int .i64 64)) H28) fun y29 H30 =>
      S.i y29
      (S.b (C 69 [x0, x1] H30) fun y31 H32 =>
       some (y31, H32))
      (S.b (up (iAddrS 1 x1 (.int .i64 0)) H30) fun y33 H34 =>
       S.b (ldC y33 H34) fun y35 H36 =>
       S.b (up (iAddrS 1 x1 (.int .i64 1)) H36) fun y37 H38 =>
       S.b (ldC y37 H38) fun y39 H40 =>
       S.b (up (lenS x0) H40) fun y41 H42 =>
       S.b (up (binB Tryd.prog .sub 3 y41 y1) H42) fun y43 H44 =>
       S.b (up (binB Tryd.prog .add 3 y43 (.int .i64 1)) H44) fun y45 H46 =>
       f47_L0 S C n n x0 x1 y1 y35 y39 (.int .i64 0) y45 (.int .i64 0) H46))
     (S.b (up (iAddrS 1 x1 (.int .i64 0)) H26) fun y127 H128 =>
      S.b (ldC y127 H128) fun y129 H130 =>
      S.b (up (iAddrS 1 x1 (.int .i64 1)) H130) fun y131 H132 =>
      S.b (ldC y131 H132) fun y133 H134 =>
      S.b (up (lenS x0) H134) fun y135 H136 =>
      S.b (up (binB Tryd.prog .sub 3 y135 y1) H136) fun y137 H138 =>
      S.b (up (binB Tryd.prog .add 3 y137 (.int .i64 1)) H138) fun y139 H140 =>
      f47_L1 S C n n x0 x1 y1 y129 y133 (.int .i64 0) (.int .i64 0) y139 H140)))))

noncomputable def f47G (S : Seam (Value × Heap)) (C : CallF) (n : Nat) (P0 : Env → Heap → Option (Value × Heap)) (P1 : Env → Heap → Option (Value × Heap)) (x0 : Value) (x1 : Value) (H : Heap) : Option (Value × Heap) :=
 S.b (up (lenS x1) H) fun y233 H234 =>
 S.b (up (binB Tryd.prog .eql 3 y233 (.int .i64 0)) H234) fun y235 H236 =>
 S.i y235
 (some ((.int .i64 0), H236))
 (S.b (up (binB Tryd.prog .eql 3 y233 (.int .i64 1)) H236) fun y237 H238 =>
  S.i y237
  (S.b (up (iAddrS 1 x1 (.int .i64 0)) H238) fun y239 H240 =>
   S.b (ldC y239 H240) fun y241 H242 =>
   S.b (C 67 [x0, y241] H242) fun y243 H244 =>
   some (y243, H244))
  (S.b (up (lenS x0) H238) fun y245 H246 =>
   S.b (up (binB Tryd.prog .eql 3 y233 y245) H246) fun y247 H248 =>
   S.i y247
   (S.b (C 68 [x1, x0] H248) fun y249 H250 =>
    S.i y249
    (some ((.int .i64 0), H250))
    (some ((.int .i64 (-1)), H250)))
   (S.b (up (lenS x0) H248) fun y251 H252 =>
    S.b (up (binB Tryd.prog .gtr 3 y233 y251) H252) fun y253 H254 =>
    S.i y253
    (some ((.int .i64 (-1)), H254))
    (S.b (ldC (.pointer (some ⟨1, 0, none⟩)) H254) fun y255 H256 =>
     S.b (up (binB Tryd.prog .leq 3 y233 y255) H256) fun y257 H258 =>
     S.i y257
     (S.b (up (lenS x0) H258) fun y259 H260 =>
      S.b (up (binB Tryd.prog .leq 3 y259 (.int .i64 64)) H260) fun y261 H262 =>
      S.i y261
      (S.b (C 69 [x0, x1] H262) fun y263 H264 =>
       some (y263, H264))
      (S.b (up (iAddrS 1 x1 (.int .i64 0)) H262) fun y265 H266 =>
       S.b (ldC y265 H266) fun y267 H268 =>
       S.b (up (iAddrS 1 x1 (.int .i64 1)) H268) fun y269 H270 =>
       S.b (ldC y269 H270) fun y271 H272 =>
       S.b (up (lenS x0) H272) fun y273 H274 =>
       S.b (up (binB Tryd.prog .sub 3 y273 y233) H274) fun y275 H276 =>
       S.b (up (binB Tryd.prog .add 3 y275 (.int .i64 1)) H276) fun y277 H278 =>
       P0 (putE 200 (putE 200 (putE 200 (putE 200 (putE 200 (putE 200 (putE 200 (putE 200 (putE 200 (putE 200 (putE 200 (putE 200 (putE 200 (putE 200 (putE 200 (putE 200 (putE 200 (putE 200 (putE 200 (putE 200 (putE 200 (putE 200 (putE 200 (putE 200 (putE 200 (putE 200 (putE 200 (putE 200 (putE 200 (putE 200 (putE 200 (putE 200 (putE 200 (putE 200 (putE 200 (putE 200 (putE 200 (putE 200 (putE 200 (putE 200 (putE 200 (putE 200 (putE 200 (env0 [x0, x1]) (some 4) (.int .i64 0)) (some 20) x1) (some 21) y233) (some 5) y233) (some 23) y233) (some 24) y235) (some 22) y235) (some 26) y233) (some 27) y237) (some 25) y237) (some 34) y233) (some 35) x0) (some 36) y245) (some 37) y247) (some 33) y247) (some 42) y233) (some 43) x0) (some 44) y251) (some 45) y253) (some 41) y253) (some 47) y233) (some 48) y255) (some 49) y257) (some 46) y257) (some 50) x0) (some 51) y259) (some 52) y261) (some 56) x1) (some 57) y265) (some 58) y267) (some 6) y267) (some 59) x1) (some 60) y269) (some 61) y271) (some 7) y271) (some 8) (.int .i64 0)) (some 62) x0) (some 63) y273) (some 64) y233) (some 65) y275) (some 66) y277) (some 9) y277) (some 10) (.int .i64 0)) H278))
     (S.b (up (iAddrS 1 x1 (.int .i64 0)) H258) fun y279 H280 =>
      S.b (ldC y279 H280) fun y281 H282 =>
      S.b (up (iAddrS 1 x1 (.int .i64 1)) H282) fun y283 H284 =>
      S.b (ldC y283 H284) fun y285 H286 =>
      S.b (up (lenS x0) H286) fun y287 H288 =>
      S.b (up (binB Tryd.prog .sub 3 y287 y233) H288) fun y289 H290 =>
      S.b (up (binB Tryd.prog .add 3 y289 (.int .i64 1)) H290) fun y291 H292 =>
      P1 (putE 200 (putE 200 (putE 200 (putE 200 (putE 200 (putE 200 (putE 200 (putE 200 (putE 200 (putE 200 (putE 200 (putE 200 (putE 200 (putE 200 (putE 200 (putE 200 (putE 200 (putE 200 (putE 200 (putE 200 (putE 200 (putE 200 (putE 200 (putE 200 (putE 200 (putE 200 (putE 200 (putE 200 (putE 200 (putE 200 (putE 200 (putE 200 (putE 200 (putE 200 (putE 200 (putE 200 (putE 200 (putE 200 (putE 200 (putE 200 (env0 [x0, x1]) (some 4) (.int .i64 0)) (some 20) x1) (some 21) y233) (some 5) y233) (some 23) y233) (some 24) y235) (some 22) y235) (some 26) y233) (some 27) y237) (some 25) y237) (some 34) y233) (some 35) x0) (some 36) y245) (some 37) y247) (some 33) y247) (some 42) y233) (some 43) x0) (some 44) y251) (some 45) y253) (some 41) y253) (some 47) y233) (some 48) y255) (some 49) y257) (some 46) y257) (some 125) x1) (some 126) y279) (some 127) y281) (some 13) y281) (some 128) x1) (some 129) y283) (some 130) y285) (some 14) y285) (some 15) (.int .i64 0)) (some 16) (.int .i64 0)) (some 131) x0) (some 132) y287) (some 133) y233) (some 134) y289) (some 135) y291) (some 17) y291) H292)))))

theorem f47_main (S : Seam (Value × Heap)) (C : CallF) (n : Nat) (x0 : Value) (x1 : Value) (H : Heap) : acodeK S Tryd.prog C n 200 f47_c (env0 [x0, x1]) H (fin Tryd.prog Tryd.f47) = f47 S C n x0 x1 H := by
  have h1 : acodeK S Tryd.prog C n 200 f47_c (env0 [x0, x1]) H (fin Tryd.prog Tryd.f47) = f47G S C n (fun env H => aloopK (acodeK S Tryd.prog C n 200 (cAt f47_c [1, 1, 0, 0, 1, 1, 1, 1, 1, 1, 1, 1, 1, 0, 1, 1, 1, 1, 1, 1, 0, 0, 0])) n env H (kAt S Tryd.prog C n 200 f47_c [1, 1, 0, 0, 1, 1, 1, 1, 1, 1, 1, 1, 1, 0, 1, 1, 1, 1, 1, 1, 0, 0] (fin Tryd.prog Tryd.f47))) (fun env H => aloopK (acodeK S Tryd.prog C n 200 (cAt f47_c [1, 1, 1, 1, 1, 1, 1, 1, 0, 0, 0])) n env H (kAt S Tryd.prog C n 200 f47_c [1, 1, 1, 1, 1, 1, 1, 1, 0, 0] (fin Tryd.prog Tryd.f47))) x0 x1 H := by kernel_rfl
  have e0 : (fun env H => aloopK (acodeK S Tryd.prog C n 200 (cAt f47_c [1, 1, 0, 0, 1, 1, 1, 1, 1, 1, 1, 1, 1, 0, 1, 1, 1, 1, 1, 1, 0, 0, 0])) n env H (kAt S Tryd.prog C n 200 f47_c [1, 1, 0, 0, 1, 1, 1, 1, 1, 1, 1, 1, 1, 0, 1, 1, 1, 1, 1, 1, 0, 0] (fin Tryd.prog Tryd.f47))) = (fun env H => f47_L0 S C n n (env 0) (env 1) (env 5) (env 6) (env 7) (env 8) (env 9) (env 10) H) := by funext env H; exact f47_L0_eq S C n n env H
  have e1 : (fun env H => aloopK (acodeK S Tryd.prog C n 200 (cAt f47_c [1, 1, 1, 1, 1, 1, 1, 1, 0, 0, 0])) n env H (kAt S Tryd.prog C n 200 f47_c [1, 1, 1, 1, 1, 1, 1, 1, 0, 0] (fin Tryd.prog Tryd.f47))) = (fun env H => f47_L1 S C n n (env 0) (env 1) (env 5) (env 13) (env 14) (env 15) (env 16) (env 17) H) := by funext env H; exact f47_L1_eq S C n n env H
  rw [e0, e1] at h1
  exact h1.trans (by kernel_rfl)


theorem f47_eq {E : Ext} (hE : E 47 = none) (n : Nat) (x0 : Value) (x1 : Value) (H : Heap) : acall Tryd.prog true E (n + 1) 47 [x0, x1] H = f47 real (acall Tryd.prog true E n) n x0 x1 H :=
  (acall_eq (N := 200) Tryd.func47 (by kernel_rfl) (by kernel_rfl) hE (by kernel_rfl) (by kernel_rfl)).trans (f47_main real _ n x0 x1 H)

/-! strings.IndexByte -/
noncomputable def f48_c : Code := (Tryd.f48.body).getD .skip

noncomputable def f48 (S : Seam (Value × Heap)) (C : CallF) (n : Nat) (x0 : Value) (x1 : Value) (H : Heap) : Option (Value × Heap) :=
 S.b (C 72 [x0, x1] H) fun y1 H2 =>
 some (y1, H2)

theorem f48_main (S : Seam (Value × Heap)) (C : CallF) (n : Nat) (x0 : Value) (x1 : Value) (H : Heap) : acodeK S Tryd.prog C n 8 f48_c (env0 [x0, x1]) H (fin Tryd.prog Tryd.f48) = f48 S C n x0 x1 H := by
  kernel_rfl


theorem f48_eq {E : Ext} (hE : E 48 = none) (n : Nat) (x0 : Value) (x1 : Value) (H : Heap) : acall Tryd.prog true E (n + 1) 48 [x0, x1] H = f48 real (acall Tryd.prog true E n) n x0 x1 H :=
  (acall_eq (N := 8) Tryd.func48 (by kernel_rfl) (by kernel_rfl) hE (by kernel_rfl) (by kernel_rfl)).trans (f48_main real _ n x0 x1 H)

/-! incunable/words.ended -/
noncomputable def f49_c : Code := (Tryd.f49.body).getD .skip

noncomputable def f49_J1 (S : Seam (Value × Heap)) (C : CallF) (n : Nat) (R0 : Value→Value→Value→Value→Heap→Option (Value × Heap)) (y48 y49 y50 y51 : Value) (H52 : Heap) : Option (Value × Heap) :=
 S.b (up (binB Tryd.prog .add 3 y51 (.int .i64 1)) H52) fun y53 H54 =>
 R0 y48 y49 y50 y53 H54

noncomputable def f49_L0 (S : Seam (Value × Heap)) (C : CallF) (n : Nat) : Nat → Value → Value → Value → Value → Heap → Option (Value × Heap)
 | 0, _, _, _, _, _ => none
 | m + 1, y1, y2, y3, y4, H5 =>
   S.b (up (lenStr y1) H5) fun y6 H7 =>
   S.b (up (binB Tryd.prog .lss 3 y4 y6) H7) fun y8 H9 =>
   S.i y8
   (S.b (up (idxS y1 y4) H9) fun y10 H11 =>
    S.b (C 48 [(.string ⟨#[10, 13]⟩), y10] H11) fun y12 H13 =>
    S.b (up (binB Tryd.prog .geq 3 y12 (.int .i64 0)) H13) fun y14 H15 =>
    S.i y14
    (some ((.int .i64 (-1)), H15))
    (S.b (up (binB Tryd.prog .eql 5 y10 y2) H15) fun y16 H17 =>
     S.i y16
     (some (y4, H17))
     (S.b (up (binB Tryd.prog .eql 5 y10 y3) H17) fun y18 H19 =>
      S.i y18
      (S.b (up (binB Tryd.prog .add 3 y4 (.int .i64 1)) H19) fun y20 H21 =>
       S.b (up (lenStr y1) H21) fun y22 H23 =>
       S.b (up (binB Tryd.prog .lss 3 y20 y22) H23) fun y24 H25 =>
       S.b (gd (wd y24 true) (some (y1, H25)) H25) fun y26 H27 =>
       S.b (gd (wd y24 true) (some (y20, H27)) H27) fun y28 H29 =>
       S.b (gd (wd y24 true) (up (idxS y26 y28) H29) H29) fun y30 H31 =>
       S.b (gd (wd y24 true) (C 48 [(.string ⟨#[10, 13]⟩), y30] H31) H31) fun y32 H33 =>
       S.b (gd (wd y24 true) (up (binB Tryd.prog .geq 3 y32 (.int .i64 0)) H33) H33) fun y34 H35 =>
       S.b (pickV y24 y34 (.bool false) H35) fun y36 H37 =>
       S.i y36
       (some ((.int .i64 (-1)), H37))
       (f49_J1 S C n (f49_L0 S C n m) y1 y2 y3 y20 H37))
      (f49_J1 S C n (f49_L0 S C n m) y1 y2 y3 y4 H19))))
   (some ((.int .i64 (-1)), H9))

theorem f49_L0_eq (S : Seam (Value × Heap)) (C : CallF) (n : Nat) : ∀ (m : Nat) (env : Env) (H : Heap), aloopK (acodeK S Tryd.prog C n 44 (cAt f49_c [1, 0, 1, 0, 0])) m env H (kAt S Tryd.prog C n 44 f49_c [1, 0, 1, 0] (fin Tryd.prog Tryd.f49)) = f49_L0 S C n m (env 0) (env 1) (env 2) (env 7) H := by
  intro m env H
  refine aloopK_eq (L := fun m env H => f49_L0 S C n m (env 0) (env 1) (env 2) (env 7) H) (fun env H => rfl) (fun m env H => ?_) m env H
  kernel_rfl


noncomputable def f49 (S : Seam (Value × Heap)) (C : CallF) (n : Nat) (x0 : Value) (x1 : Value) (x2 : Value) (H : Heap) : Option (Value × Heap) :=
 f49_L0 S C n n x0 x1 x2 (.int .i64 0) H

noncomputable def f49G (S : Seam (Value × Heap)) (C : CallF) (n : Nat) (P0 : Env → Heap → Option (Value × Heap)) (x0 : Value) (x1 : Value) (x2 : Value) (H : Heap) : Option (Value × Heap) :=
 P0 (putE 44 (putE 44 (env0 [x0, x1, x2]) (some 6) (.int .i64 0)) (some 7) (.int .i64 0)) H

theorem f49_main (S : Seam (Value × Heap)) (C : CallF) (n : Nat) (x0 : Value) (x1 : Value) (x2 : Value) (H : Heap) : acodeK S Tryd.prog C n 44 f49_c (env0 [x0, x1, x2]) H (fin Tryd.prog Tryd.f49) = f49 S C n x0 x1 x2 H := by
  have h1 : acodeK S Tryd.prog C n 44 f49_c (env0 [x0, x1, x2]) H (fin Tryd.prog Tryd.f49) = f49G S C n (fun env H => aloopK (acodeK S Tryd.prog C n 44 (cAt f49_c [1, 0, 1, 0, 0])) n env H (kAt S Tryd.prog C n 44 f49_c [1, 0, 1, 0] (fin Tryd.prog Tryd.f49))) x0 x1 x2 H := by kernel_rfl
  have e0 : (fun env H => aloopK (acodeK S Tryd.prog C n 44 (cAt f49_c [1, 0, 1, 0, 0])) n env H (kAt S Tryd.prog C n 44 f49_c [1, 0, 1, 0] (fin Tryd.prog Tryd.f49))) = (fun env H => f49_L0 S C n n (env 0) (env 1) (env 2) (env 7) H) := by funext env H; exact f49_L0_eq S C n n env H
  rw [e0] at h1
  exact h1.trans (by kernel_rfl)


theorem f49_eq {E : Ext} (hE : E 49 = none) (n : Nat) (x0 : Value) (x1 : Value) (x2 : Value) (H : Heap) : acall Tryd.prog true E (n + 1) 49 [x0, x1, x2] H = f49 real (acall Tryd.prog true E n) n x0 x1 x2 H :=
  (acall_eq (N := 44) Tryd.func49 (by kernel_rfl) (by kernel_rfl) hE (by kernel_rfl) (by kernel_rfl)).trans (f49_main real _ n x0 x1 x2 H)

/-! incunable/words.IsPath -/
noncomputable def f50_c : Code := (Tryd.f50.body).getD .skip

noncomputable def f50 (S : Seam (Value × Heap)) (C : CallF) (n : Nat) (x0 : Value) (H : Heap) : Option (Value × Heap) :=
 S.b (C 73 [x0, (.func (.func 74) #[] #[])] H) fun y1 H2 =>
 S.b (up (lenStr x0) H2) fun y3 H4 =>
 S.b (up (binB Tryd.prog .leq 3 (.int .i64 1) y3) H4) fun y5 H6 =>
 S.b (gd (wd y5 true) (some (x0, H6)) H6) fun y7 H8 =>
 S.b (gd (wd y5 true) (up (lenStr y7) H8) H8) fun y9 H10 =>
 S.b (gd (wd y5 true) (up (binB Tryd.prog .leq 3 y9 (.int .i64 32)) H10) H10) fun y11 H12 =>
 S.b (pickV y5 y11 (.bool false) H12) fun y13 H14 =>
 S.b (gd (wd y13 true) (some (y1, H14)) H14) fun y15 H16 =>
 S.b (gd (wd y13 true) (up (unB .not y15) H16) H16) fun y17 H18 =>
 S.b (pickV y13 y17 (.bool false) H18) fun y19 H20 =>
 some (y19, H20)

theorem f50_main (S : Seam (Value × Heap)) (C : CallF) (n : Nat) (x0 : Value) (H : Heap) : acodeK S Tryd.prog C n 18 f50_c (env0 [x0]) H (fin Tryd.prog Tryd.f50) = f50 S C n x0 H := by
  kernel_rfl


theorem f50_eq {E : Ext} (hE : E 50 = none) (n : Nat) (x0 : Value) (H : Heap) : acall Tryd.prog true E (n + 1) 50 [x0] H = f50 real (acall Tryd.prog true E n) n x0 H :=
  (acall_eq (N := 18) Tryd.func50 (by kernel_rfl) (by kernel_rfl) hE (by kernel_rfl) (by kernel_rfl)).trans (f50_main real _ n x0 H)

/-! incunable/words.isLetter -/
noncomputable def f51_c : Code := (Tryd.f51.body).getD .skip

noncomputable def f51 (S : Seam (Value × Heap)) (C : CallF) (n : Nat) (x0 : Value) (H : Heap) : Option (Value × Heap) :=
 S.b (up (binB Tryd.prog .leq 5 (.int .u8 97) x0) H) fun y1 H2 =>
 S.b (gd (wd y1 true) (some (x0, H2)) H2) fun y3 H4 =>
 S.b (gd (wd y1 true) (up (binB Tryd.prog .leq 5 y3 (.int .u8 122)) H4) H4) fun y5 H6 =>
 S.b (pickV y1 y5 (.bool false) H6) fun y7 H8 =>
 S.b (gd (wd y7 false) (some (x0, H8)) H8) fun y9 H10 =>
 S.b (gd (wd y7 false) (up (binB Tryd.prog .leq 5 (.int .u8 65) y9) H10) H10) fun y11 H12 =>
 S.b (gd (wd y7 false) (some (y11, H12)) H12) fun y13 H14 =>
 S.b (gd (wd y13 true) (some (x0, H14)) H14) fun y15 H16 =>
 S.b (gd (wd y13 true) (up (binB Tryd.prog .leq 5 y15 (.int .u8 90)) H16) H16) fun y17 H18 =>
 S.b (gd (wd y7 false) (pickV y13 y17 (.bool false) H18) H18) fun y19 H20 =>
 S.b (pickV y7 (.bool true) y19 H20) fun y21 H22 =>
 S.b (gd (wd y21 false) (some (x0, H22)) H22) fun y23 H24 =>
 S.b (gd (wd y21 false) (C 52 [y23] H24) H24) fun y25 H26 =>
 S.b (pickV y21 (.bool true) y25 H26) fun y27 H28 =>
 S.b (gd (wd y27 false) (some (x0, H28)) H28) fun y29 H30 =>
 S.b (gd (wd y27 false) (up (binB Tryd.prog .eql 5 y29 (.int .u8 95)) H30) H30) fun y31 H32 =>
 S.b (pickV y27 (.bool true) y31 H32) fun y33 H34 =>
 some (y33, H34)

theorem f51_main (S : Seam (Value × Heap)) (C : CallF) (n : Nat) (x0 : Value) (H : Heap) : acodeK S Tryd.prog C n 25 f51_c (env0 [x0]) H (fin Tryd.prog Tryd.f51) = f51 S C n x0 H := by
  kernel_rfl


theorem f51_eq {E : Ext} (hE : E 51 = none) (n : Nat) (x0 : Value) (H : Heap) : acall Tryd.prog true E (n + 1) 51 [x0] H = f51 real (acall Tryd.prog true E n) n x0 H :=
  (acall_eq (N := 25) Tryd.func51 (by kernel_rfl) (by kernel_rfl) hE (by kernel_rfl) (by kernel_rfl)).trans (f51_main real _ n x0 H)

/-! incunable/words.isDigit -/
noncomputable def f52_c : Code := (Tryd.f52.body).getD .skip

noncomputable def f52 (S : Seam (Value × Heap)) (C : CallF) (n : Nat) (x0 : Value) (H : Heap) : Option (Value × Heap) :=
 S.b (up (binB Tryd.prog .leq 5 (.int .u8 48) x0) H) fun y1 H2 =>
 S.b (gd (wd y1 true) (some (x0, H2)) H2) fun y3 H4 =>
 S.b (gd (wd y1 true) (up (binB Tryd.prog .leq 5 y3 (.int .u8 57)) H4) H4) fun y5 H6 =>
 S.b (pickV y1 y5 (.bool false) H6) fun y7 H8 =>
 some (y7, H8)

theorem f52_main (S : Seam (Value × Heap)) (C : CallF) (n : Nat) (x0 : Value) (H : Heap) : acodeK S Tryd.prog C n 9 f52_c (env0 [x0]) H (fin Tryd.prog Tryd.f52) = f52 S C n x0 H := by
  kernel_rfl


theorem f52_eq {E : Ext} (hE : E 52 = none) (n : Nat) (x0 : Value) (H : Heap) : acall Tryd.prog true E (n + 1) 52 [x0] H = f52 real (acall Tryd.prog true E n) n x0 H :=
  (acall_eq (N := 9) Tryd.func52 (by kernel_rfl) (by kernel_rfl) hE (by kernel_rfl) (by kernel_rfl)).trans (f52_main real _ n x0 H)

/-! incunable/words.letters -/
noncomputable def f53_c : Code := (Tryd.f53.body).getD .skip

noncomputable def f53_L0 (S : Seam (Value × Heap)) (C : CallF) (n : Nat) : Nat → Value → Value → Value → Heap → Option (Value × Heap)
 | 0, _, _, _, _ => none
 | m + 1, y3, y4, y5, H6 =>
   S.b (up (binB Tryd.prog .lss 3 y5 y4) H6) fun y7 H8 =>
   S.i y7
   (S.b (up (idxS y3 y5) H8) fun y9 H10 =>
    S.b (C 51 [y9] H10) fun y11 H12 =>
    S.b (up (unB .not y11) H12) fun y13 H14 =>
    S.i y13
    (some (y5, H14))
    (S.b (up (binB Tryd.prog .add 3 y5 (.int .i64 1)) H14) fun y15 H16 =>
     f53_L0 S C n m y3 y4 y15 H16))
   (S.b (up (lenStr y3) H8) fun y17 H18 =>
    some (y17, H18))

theorem f53_L0_eq (S : Seam (Value × Heap)) (C : CallF) (n : Nat) : ∀ (m : Nat) (env : Env) (H : Heap), aloopK (acodeK S Tryd.prog C n 18 (cAt f53_c [1, 0, 1, 0, 0])) m env H (kAt S Tryd.prog C n 18 f53_c [1, 0, 1, 0] (fin Tryd.prog Tryd.f53)) = f53_L0 S C n m (env 0) (env 5) (env 6) H := by
  intro m env H
  refine aloopK_eq (L := fun m env H => f53_L0 S C n m (env 0) (env 5) (env 6) H) (fun env H => rfl) (fun m env H => ?_) m env H
  kernel_rfl


noncomputable def f53 (S : Seam (Value × Heap)) (C : CallF) (n : Nat) (x0 : Value) (H : Heap) : Option (Value × Heap) :=
 S.b (up (lenStr x0) H) fun y1 H2 =>
 f53_L0 S C n n x0 y1 (.int .i64 0) H2

noncomputable def f53G (S : Seam (Value × Heap)) (C : CallF) (n : Nat) (P0 : Env → Heap → Option (Value × Heap)) (x0 : Value) (H : Heap) : Option (Value × Heap) :=
 S.b (up (lenStr x0) H) fun y19 H20 =>
 P0 (putE 18 (putE 18 (putE 18 (putE 18 (env0 [x0]) (some 2) (.int .i64 0)) (some 4) x0) (some 5) y19) (some 6) (.int .i64 0)) H20

theorem f53_main (S : Seam (Value × Heap)) (C : CallF) (n : Nat) (x0 : Value) (H : Heap) : acodeK S Tryd.prog C n 18 f53_c (env0 [x0]) H (fin Tryd.prog Tryd.f53) = f53 S C n x0 H := by
  have h1 : acodeK S Tryd.prog C n 18 f53_c (env0 [x0]) H (fin Tryd.prog Tryd.f53) = f53G S C n (fun env H => aloopK (acodeK S Tryd.prog C n 18 (cAt f53_c [1, 0, 1, 0, 0])) n env H (kAt S Tryd.prog C n 18 f53_c [1, 0, 1, 0] (fin Tryd.prog Tryd.f53))) x0 H := by kernel_rfl
  have e0 : (fun env H => aloopK (acodeK S Tryd.prog C n 18 (cAt f53_c [1, 0, 1, 0, 0])) n env H (kAt S Tryd.prog C n 18 f53_c [1, 0, 1, 0] (fin Tryd.prog Tryd.f53))) = (fun env H => f53_L0 S C n n (env 0) (env 5) (env 6) H) := by funext env H; exact f53_L0_eq S C n n env H
  rw [e0] at h1
  exact h1.trans (by kernel_rfl)


theorem f53_eq {E : Ext} (hE : E 53 = none) (n : Nat) (x0 : Value) (H : Heap) : acall Tryd.prog true E (n + 1) 53 [x0] H = f53 real (acall Tryd.prog true E n) n x0 H :=
  (acall_eq (N := 18) Tryd.func53 (by kernel_rfl) (by kernel_rfl) hE (by kernel_rfl) (by kernel_rfl)).trans (f53_main real _ n x0 H)

/-! slices.Index[[]string,string] -/
noncomputable def f54_c : Code := (Tryd.f54.body).getD .skip

noncomputable def f54_L0 (S : Seam (Value × Heap)) (C : CallF) (n : Nat) : Nat → Value → Value → Value → Value → Heap → Option (Value × Heap)
 | 0, _, _, _, _, _ => none
 | m + 1, y3, y4, y5, y6, H7 =>
   S.b (up (binB Tryd.prog .lss 3 y6 y5) H7) fun y8 H9 =>
   S.i y8
   (S.b (up (iAddrS 1 y3 y6) H9) fun y10 H11 =>
    S.b (ldC y10 H11) fun y12 H13 =>
    S.b (up (binB Tryd.prog .eql 9 y4 y12) H13) fun y14 H15 =>
    S.i y14
    (some (y6, H15))
    (S.b (up (binB Tryd.prog .add 3 y6 (.int .i64 1)) H15) fun y16 H17 =>
     f54_L0 S C n m y3 y4 y5 y16 H17))
   (some ((.int .i64 (-1)), H9))

theorem f54_L0_eq (S : Seam (Value × Heap)) (C : CallF) (n : Nat) : ∀ (m : Nat) (env : Env) (H : Heap), aloopK (acodeK S Tryd.prog C n 19 (cAt f54_c [1, 0, 1, 0, 0])) m env H (kAt S Tryd.prog C n 19 f54_c [1, 0, 1, 0] (fin Tryd.prog Tryd.f54)) = f54_L0 S C n m (env 0) (env 1) (env 7) (env 8) H := by
  intro m env H
  refine aloopK_eq (L := fun m env H => f54_L0 S C n m (env 0) (env 1) (env 7) (env 8) H) (fun env H => rfl) (fun m env H => ?_) m env H
  kernel_rfl


noncomputable def f54 (S : Seam (Value × Heap)) (C : CallF) (n : Nat) (x0 : Value) (x1 : Value) (H : Heap) : Option (Value × Heap) :=
 S.b (up (lenS x0) H) fun y1 H2 =>
 f54_L0 S C n n x0 x1 y1 (.int .i64 0) H2

noncomputable def f54G (S : Seam (Value × Heap)) (C : CallF) (n : Nat) (P0 : Env → Heap → Option (Value × Heap)) (x0 : Value) (x1 : Value) (H : Heap) : Option (Value × Heap) :=
 S.b (up (lenS x0) H) fun y18 H19 =>
 P0 (putE 19 (putE 19 (putE 19 (putE 19 (env0 [x0, x1]) (some 4) (.int .i64 0)) (some 6) x0) (some 7) y18) (some 8) (.int .i64 0)) H19

theorem f54_main (S : Seam (Value × Heap)) (C : CallF) (n : Nat) (x0 : Value) (x1 : Value) (H : Heap) : acodeK S Tryd.prog C n 19 f54_c (env0 [x0, x1]) H (fin Tryd.prog Tryd.f54) = f54 S C n x0 x1 H := by
  have h1 : acodeK S Tryd.prog C n 19 f54_c (env0 [x0, x1]) H (fin Tryd.prog Tryd.f54) = f54G S C n (fun env H => aloopK (acodeK S Tryd.prog C n 19 (cAt f54_c [1, 0, 1, 0, 0])) n env H (kAt S Tryd.prog C n 19 f54_c [1, 0, 1, 0] (fin Tryd.prog Tryd.f54))) x0 x1 H := by kernel_rfl
  have e0 : (fun env H => aloopK (acodeK S Tryd.prog C n 19 (cAt f54_c [1, 0, 1, 0, 0])) n env H (kAt S Tryd.prog C n 19 f54_c [1, 0, 1, 0] (fin Tryd.prog Tryd.f54))) = (fun env H => f54_L0 S C n n (env 0) (env 1) (env 7) (env 8) H) := by funext env H; exact f54_L0_eq S C n n env H
  rw [e0] at h1
  exact h1.trans (by kernel_rfl)


theorem f54_eq {E : Ext} (hE : E 54 = none) (n : Nat) (x0 : Value) (x1 : Value) (H : Heap) : acall Tryd.prog true E (n + 1) 54 [x0, x1] H = f54 real (acall Tryd.prog true E n) n x0 x1 H :=
  (acall_eq (N := 19) Tryd.func54 (by kernel_rfl) (by kernel_rfl) hE (by kernel_rfl) (by kernel_rfl)).trans (f54_main real _ n x0 x1 H)

/-! (*incunable/gram.reader).may -/
noncomputable def f55_c : Code := (Tryd.f55.body).getD .skip

noncomputable def f55 (S : Seam (Value × Heap)) (C : CallF) (n : Nat) (x0 : Value) (x1 : Value) (x2 : Value) (H : Heap) : Option (Value × Heap) :=
 S.b (C 76 [x0, x1, x2] H) fun y1 H2 =>
 S.b (extr 0 y1 H2) fun y3 H4 =>
 S.b (extr 1 y1 H4) fun y5 H6 =>
 S.i y5
 (S.b (nilC x0 H6) fun y7 H8 =>
  S.b (up (fAddr 1 y7) H8) fun y9 H10 =>
  S.b (ldC y9 H10) fun y11 H12 =>
  S.b (up (slcS 3 y11 (some (.int .i64 1)) none none) H12) fun y13 H14 =>
  S.b (nilC x0 H14) fun y15 H16 =>
  S.b (up (fAddr 1 y15) H16) fun y17 H18 =>
  S.b (stV 1 y17 y13 H18) fun _ H19 =>
  some (.tuple #[y3, y5], H19))
 (some (.tuple #[y3, y5], H6))

theorem f55_main (S : Seam (Value × Heap)) (C : CallF) (n : Nat) (x0 : Value) (x1 : Value) (x2 : Value) (H : Heap) : acodeK S Tryd.prog C n 28 f55_c (env0 [x0, x1, x2]) H (fin Tryd.prog Tryd.f55) = f55 S C n x0 x1 x2 H := by
  kernel_rfl


theorem f55_eq {E : Ext} (hE : E 55 = none) (n : Nat) (x0 : Value) (x1 : Value) (x2 : Value) (H : Heap) : acall Tryd.prog true E (n + 1) 55 [x0, x1, x2] H = f55 real (acall Tryd.prog true E n) n x0 x1 x2 H :=
  (acall_eq (N := 28) Tryd.func55 (by kernel_rfl) (by kernel_rfl) hE (by kernel_rfl) (by kernel_rfl)).trans (f55_main real _ n x0 x1 x2 H)

/-! (*incunable/gram.reader).alt -/
noncomputable def f56_c : Code := (Tryd.f56.body).getD .skip

noncomputable def f56_J1 (S : Seam (Value × Heap)) (C : CallF) (n : Nat) (y21 y22 : Value) (H23 : Heap) : Option (Value × Heap) :=
 S.b (ldA 2 y22 H23) fun y24 H25 =>
 S.b (stV 2 y21 y24 H25) fun _ H26 =>
 (resM [(ldA 2 y21 H26).map (·.1)]).map fun l => (one l, H26)

noncomputable def f56 (S : Seam (Value × Heap)) (C : CallF) (n : Nat) (x0 : Value) (H : Heap) : Option (Value × Heap) :=
 S.b (newV [(.slice none 0 0), (.string ⟨#[]⟩)] H) fun y1 H2 =>
 S.b (C 37 [x0] H2) fun y3 H4 =>
 S.b (bld [(.slice none 0 0), (.string ⟨#[]⟩)] [(0, 1, y3)] H4) fun y5 H6 =>
 S.b (newV [(.slice none 0 0), (.string ⟨#[]⟩)] H6) fun y7 H8 =>
 S.b (stV 2 y7 y5 H8) fun _ H9 =>
 S.b (C 55 [x0, (.int .i64 13), (.string ⟨#[]⟩)] H9) fun y10 H11 =>
 S.b (extr 0 y10 H11) fun y12 H13 =>
 S.b (extr 1 y10 H13) fun y14 H15 =>
 S.i y14
 (S.b (C 35 [x0, (.int .i64 1), (.string ⟨#[]⟩)] H15) fun y16 H17 =>
  S.b (up (fAddr 1 y7) H17) fun y18 H19 =>
  S.b (stV 1 y18 y16 H19) fun _ H20 =>
  f56_J1 S C n y1 y7 H20)
 (f56_J1 S C n y1 y7 H15)

theorem f56_main (S : Seam (Value × Heap)) (C : CallF) (n : Nat) (x0 : Value) (H : Heap) : acodeK S Tryd.prog C n 19 f56_c (env0 [x0]) H (fin Tryd.prog Tryd.f56) = f56 S C n x0 H := by
  kernel_rfl


theorem f56_eq {E : Ext} (hE : E 56 = none) (n : Nat) (x0 : Value) (H : Heap) : acall Tryd.prog true E (n + 1) 56 [x0] H = f56 real (acall Tryd.prog true E n) n x0 H :=
  (acall_eq (N := 19) Tryd.func56 (by kernel_rfl) (by kernel_rfl) hE (by kernel_rfl) (by kernel_rfl)).trans (f56_main real _ n x0 H)

/-! incunable/incunableref14.ended -/
noncomputable def f57_c : Code := (Tryd.f57.body).getD .skip

noncomputable def f57_J1 (S : Seam (Value × Heap)) (C : CallF) (n : Nat) (R0 : Value→Value→Value→Heap→Option (Value × Heap)) (y95 y96 y97 : Value) (H98 : Heap) : Option (Value × Heap) :=
 S.b (up (binB Tryd.prog .add 3 y97 (.int .i64 1)) H98) fun y99 H100 =>
 R0 y95 y96 y99 H100

noncomputable def f57_L0 (S : Seam (Value × Heap)) (C : CallF) (n : Nat) : Nat → Value → Value → Value → Heap → Option (Value × Heap)
 | 0, _, _, _, _ => none
 | m + 1, y3, y4, y5, H6 =>
   S.b (up (lenS y3) H6) fun y7 H8 =>
   S.b (up (binB Tryd.prog .lss 3 y5 y7) H8) fun y9 H10 =>
   S.i y9
   (S.b (up (iAddrS 1 y3 y5) H10) fun y11 H12 =>
    S.b (ldC y11 H12) fun y13 H14 =>
    S.b (up (binB Tryd.prog .eql 5 y13 (.int .u8 10)) H14) fun y15 H16 =>
    S.b (gd (wd y15 false) (some (y3, H16)) H16) fun y17 H18 =>
    S.b (gd (wd y15 false) (some (y5, H18)) H18) fun y19 H20 =>
    S.b (gd (wd y15 false) (up (iAddrS 1 y17 y19) H20) H20) fun y21 H22 =>
    S.b (gd (wd y15 false) (ldC y21 H22) H22) fun y23 H24 =>
    S.b (gd (wd y15 false) (up (binB Tryd.prog .eql 5 y23 (.int .u8 13)) H24) H24) fun y25 H26 =>
    S.b (pickV y15 (.bool true) y25 H26) fun y27 H28 =>
    S.i y27
    (some ((.int .i64 (-1)), H28))
    (S.b (up (iAddrS 1 y3 y5) H28) fun y29 H30 =>
     S.c true (S.b (ldC y29 H30) fun y31 H32 =>
     S.b (up (iAddrS 1 y3 y4) H32) fun y33 H34 =>
     S.c true (S.b (ldC y33 H34) fun y35 H36 =>
     S.b (up (binB Tryd.prog .eql 5 y31 y35) H36) fun y37 H38 =>
     S.i y37
     (S.b (up (binB Tryd.prog .add 3 y5 (.int .i64 1)) H38) fun y39 H40 =>
      some (y39, H40))
     (S.b (up (iAddrS 1 y3 y5) H38) fun y41 H42 =>
      S.b (ldC y41 H42) fun y43 H44 =>
      S.b (up (binB Tryd.prog .eql 5 y43 (.int .u8 92)) H44) fun y45 H46 =>
      S.b (gd (wd y45 true) (some (y3, H46)) H46) fun y47 H48 =>
      S.b (gd (wd y45 true) (some (y4, H48)) H48) fun y49 H50 =>
      S.b (gd (wd y45 true) (up (iAddrS 1 y47 y49) H50) H50) fun y51 H52 =>
      S.b (gd (wd y45 true) (ldC y51 H52) H52) fun y53 H54 =>
      S.b (gd (wd y45 true) (up (binB Tryd.prog .eql 5 y53 (.int .u8 47)) H54) H54) fun y55 H56 =>
      S.b (pickV y45 y55 (.bool false) H56) fun y57 H58 =>
      S.i y57
      (S.b (up (binB Tryd.prog .add 3 y5 (.int .i64 1)) H58) fun y59 H60 =>
       S.b (up (lenS y3) H60) fun y61 H62 =>
       S.b (up (binB Tryd.prog .lss 3 y59 y61) H62) fun y63 H64 =>
       S.b (gd (wd y63 true) (some (y3, H64)) H64) fun y65 H66 =>
       S.b (gd (wd y63 true) (some (y59, H66)) H66) fun y67 H68 =>
       S.b (gd (wd y63 true) (up (iAddrS 1 y65 y67) H68) H68) fun y69 H70 =>
       S.b (gd (wd y63 true) (ldC y69 H70) H70) fun y71 H72 =>
       S.b (gd (wd y63 true) (up (binB Tryd.prog .eql 5 y71 (.int .u8 10)) H72) H72) fun y73 H74 =>
       S.b (gd (wd y63 true) (some (y73, H74)) H74) fun y75 H76 =>
       S.b (gd (wd y75 false) (some (y3, H76)) H76) fun y77 H78 =>
       S.b (gd (wd y75 false) (some (y59, H78)) H78) fun y79 H80 =>
       S.b (gd (wd y75 false) (up (iAddrS 1 y77 y79) H80) H80) fun y81 H82 =>
       S.b (gd (wd y75 false) (ldC y81 H82) H82) fun y83 H84 =>
       S.b (gd (wd y75 false) (up (binB Tryd.prog .eql 5 y83 (.int .u8 13)) H84) H84) fun y85 H86 =>
       S.b (gd (wd y63 true) (pickV y75 (.bool true) y85 H86) H86) fun y87 H88 =>
       S.b (pickV y63 y87 (.bool false) H88) fun y89 H90 =>
       S.i y89
       (some ((.int .i64 (-1)), H90))
       (f57_J1 S C n (f57_L0 S C n m) y3 y4 y59 H90))
      (f57_J1 S C n (f57_L0 S C n m) y3 y4 y5 H58))))))
   (some ((.int .i64 (-1)), H10))

theorem f57_L0_eq (S : Seam (Value × Heap)) (C : CallF) (n : Nat) : ∀ (m : Nat) (env : Env) (H : Heap), aloopK (acodeK S Tryd.prog C n 69 (cAt f57_c [1, 0, 1, 0, 0])) m env H (kAt S Tryd.prog C n 69 f57_c [1, 0, 1, 0] (fin Tryd.prog Tryd.f57)) = f57_L0 S C n m (env 0) (env 1) (env 5) H := by
  intro m env H
  refine aloopK_eq (L := fun m env H => f57_L0 S C n m (env 0) (env 1) (env 5) H) (fun env H => rfl) (fun m env H => ?_) m env H
  kernel_rfl


noncomputable def f57 (S : Seam (Value × Heap)) (C : CallF) (n : Nat) (x0 : Value) (x1 : Value) (H : Heap) : Option (Value × Heap) :=
 S.b (up (binB Tryd.prog .add 3 x1 (.int .i64 1)) H) fun y1 H2 =>
 f57_L0 S C n n x0 x1 y1 H2

noncomputable def f57G (S : Seam (Value × Heap)) (C : CallF) (n : Nat) (P0 : Env → Heap → Option (Value × Heap)) (x0 : Value) (x1 : Value) (H : Heap) : Option (Value × Heap) :=
 S.b (up (binB Tryd.prog .add 3 x1 (.int .i64 1)) H) fun y101 H102 =>
 P0 (putE 69 (putE 69 (putE 69 (putE 69 (env0 [x0, x1]) (some 4) (.int .i64 0)) (some 6) x1) (some 7) y101) (some 5) y101) H102

theorem f57_main (S : Seam (Value × Heap)) (C : CallF) (n : Nat) (x0 : Value) (x1 : Value) (H : Heap) : acodeK S Tryd.prog C n 69 f57_c (env0 [x0, x1]) H (fin Tryd.prog Tryd.f57) = f57 S C n x0 x1 H := by
  have h1 : acodeK S Tryd.prog C n 69 f57_c (env0 [x0, x1]) H (fin Tryd.prog Tryd.f57) = f57G S C n (fun env H => aloopK (acodeK S Tryd.prog C n 69 (cAt f57_c [1, 0, 1, 0, 0])) n env H (kAt S Tryd.prog C n 69 f57_c [1, 0, 1, 0] (fin Tryd.prog Tryd.f57))) x0 x1 H := by kernel_rfl
  have e0 : (fun env H => aloopK (acodeK S Tryd.prog C n 69 (cAt f57_c [1, 0, 1, 0, 0])) n env H (kAt S Tryd.prog C n 69 f57_c [1, 0, 1, 0] (fin Tryd.prog Tryd.f57))) = (fun env H => f57_L0 S C n n (env 0) (env 1) (env 5) H) := by funext env H; exact f57_L0_eq S C n n env H
  rw [e0] at h1
  exact h1.trans (by kernel_rfl)


theorem f57_eq {E : Ext} (hE : E 57 = none) (n : Nat) (x0 : Value) (x1 : Value) (H : Heap) : acall Tryd.prog true E (n + 1) 57 [x0, x1] H = f57 real (acall Tryd.prog true E n) n x0 x1 H :=
  (acall_eq (N := 69) Tryd.func57 (by kernel_rfl) (by kernel_rfl) hE (by kernel_rfl) (by kernel_rfl)).trans (f57_main real _ n x0 x1 H)

/-! incunable/incunableref14.IsPath -/
noncomputable def f58_c : Code := (Tryd.f58.body).getD .skip

noncomputable def f58_L0 (S : Seam (Value × Heap)) (C : CallF) (n : Nat) : Nat → Value → Value → Heap → Option (Value × Heap)
 | 0, _, _, _ => none
 | m + 1, y1, y2, H3 =>
   S.b (up (lenStr y1) H3) fun y4 H5 =>
   S.b (up (binB Tryd.prog .lss 3 y2 y4) H5) fun y6 H7 =>
   S.i y6
   (S.b (up (idxS y1 y2) H7) fun y8 H9 =>
    S.b (up (binB Tryd.prog .geq 5 y8 (.int .u8 97)) H9) fun y10 H11 =>
    S.b (gd (wd y10 true) (some (y8, H11)) H11) fun y12 H13 =>
    S.b (gd (wd y10 true) (up (binB Tryd.prog .leq 5 y12 (.int .u8 122)) H13) H13) fun y14 H15 =>
    S.b (pickV y10 y14 (.bool false) H15) fun y16 H17 =>
    S.b (gd (wd y16 false) (some (y8, H17)) H17) fun y18 H19 =>
    S.b (gd (wd y16 false) (C 60 [y18] H19) H19) fun y20 H21 =>
    S.b (pickV y16 (.bool true) y20 H21) fun y22 H23 =>
    S.b (gd (wd y22 false) (some (y8, H23)) H23) fun y24 H25 =>
    S.b (gd (wd y22 false) (up (binB Tryd.prog .eql 5 y24 (.int .u8 46)) H25) H25) fun y26 H27 =>
    S.b (pickV y22 (.bool true) y26 H27) fun y28 H29 =>
    S.b (gd (wd y28 false) (some (y8, H29)) H29) fun y30 H31 =>
    S.b (gd (wd y28 false) (up (binB Tryd.prog .eql 5 y30 (.int .u8 95)) H31) H31) fun y32 H33 =>
    S.b (pickV y28 (.bool true) y32 H33) fun y34 H35 =>
    S.b (gd (wd y34 false) (some (y8, H35)) H35) fun y36 H37 =>
    S.b (gd (wd y34 false) (up (binB Tryd.prog .eql 5 y36 (.int .u8 45)) H37) H37) fun y38 H39 =>
    S.b (pickV y34 (.bool true) y38 H39) fun y40 H41 =>
    S.b (gd (wd y40 false) (some (y8, H41)) H41) fun y42 H43 =>
    S.b (gd (wd y40 false) (up (binB Tryd.prog .eql 5 y42 (.int .u8 47)) H43) H43) fun y44 H45 =>
    S.b (pickV y40 (.bool true) y44 H45) fun y46 H47 =>
    S.b (up (unB .not y46) H47) fun y48 H49 =>
    S.i y48
    (some ((.bool false), H49))
    (S.b (up (binB Tryd.prog .add 3 y2 (.int .i64 1)) H49) fun y50 H51 =>
     f58_L0 S C n m y1 y50 H51))
   (S.b (up (lenStr y1) H7) fun y52 H53 =>
    S.b (up (binB Tryd.prog .geq 3 y52 (.int .i64 1)) H53) fun y54 H55 =>
    S.b (gd (wd y54 true) (some (y1, H55)) H55) fun y56 H57 =>
    S.b (gd (wd y54 true) (up (lenStr y56) H57) H57) fun y58 H59 =>
    S.b (gd (wd y54 true) (up (binB Tryd.prog .leq 3 y58 (.int .i64 32)) H59) H59) fun y60 H61 =>
    S.b (pickV y54 y60 (.bool false) H61) fun y62 H63 =>
    some (y62, H63))

theorem f58_L0_eq (S : Seam (Value × Heap)) (C : CallF) (n : Nat) : ∀ (m : Nat) (env : Env) (H : Heap), aloopK (acodeK S Tryd.prog C n 49 (cAt f58_c [1, 0, 1, 0, 0])) m env H (kAt S Tryd.prog C n 49 f58_c [1, 0, 1, 0] (fin Tryd.prog Tryd.f58)) = f58_L0 S C n m (env 0) (env 3) H := by
  intro m env H
  refine aloopK_eq (L := fun m env H => f58_L0 S C n m (env 0) (env 3) H) (fun env H => rfl) (fun m env H => ?_) m env H
  kernel_rfl


noncomputable def f58 (S : Seam (Value × Heap)) (C : CallF) (n : Nat) (x0 : Value) (H : Heap) : Option (Value × Heap) :=
 f58_L0 S C n n x0 (.int .i64 0) H

noncomputable def f58G (S : Seam (Value × Heap)) (C : CallF) (n : Nat) (P0 : Env → Heap → Option (Value × Heap)) (x0 : Value) (H : Heap) : Option (Value × Heap) :=
 P0 (putE 49 (putE 49 (env0 [x0]) (some 2) (.bool false)) (some 3) (.int .i64 0)) H

theorem f58_main (S : Seam (Value × Heap)) (C : CallF) (n : Nat) (x0 : Value) (H : Heap) : acodeK S Tryd.prog C n 49 f58_c (env0 [x0]) H (fin Tryd.prog Tryd.f58) = f58 S C n x0 H := by
  have h1 : acodeK S Tryd.prog C n 49 f58_c (env0 [x0]) H (fin Tryd.prog Tryd.f58) = f58G S C n (fun env H => aloopK (acodeK S Tryd.prog C n 49 (cAt f58_c [1, 0, 1, 0, 0])) n env H (kAt S Tryd.prog C n 49 f58_c [1, 0, 1, 0] (fin Tryd.prog Tryd.f58))) x0 H := by kernel_rfl
  have e0 : (fun env H => aloopK (acodeK S Tryd.prog C n 49 (cAt f58_c [1, 0, 1, 0, 0])) n env H (kAt S Tryd.prog C n 49 f58_c [1, 0, 1, 0] (fin Tryd.prog Tryd.f58))) = (fun env H => f58_L0 S C n n (env 0) (env 3) H) := by funext env H; exact f58_L0_eq S C n n env H
  rw [e0] at h1
  exact h1.trans (by kernel_rfl)


theorem f58_eq {E : Ext} (hE : E 58 = none) (n : Nat) (x0 : Value) (H : Heap) : acall Tryd.prog true E (n + 1) 58 [x0] H = f58 real (acall Tryd.prog true E n) n x0 H :=
  (acall_eq (N := 49) Tryd.func58 (by kernel_rfl) (by kernel_rfl) hE (by kernel_rfl) (by kernel_rfl)).trans (f58_main real _ n x0 H)

/-! incunable/incunableref14.letter -/
noncomputable def f59_c : Code := (Tryd.f59.body).getD .skip

noncomputable def f59 (S : Seam (Value × Heap)) (C : CallF) (n : Nat) (x0 : Value) (H : Heap) : Option (Value × Heap) :=
 S.b (up (binB Tryd.prog .geq 5 x0 (.int .u8 97)) H) fun y1 H2 =>
 S.b (gd (wd y1 true) (some (x0, H2)) H2) fun y3 H4 =>
 S.b (gd (wd y1 true) (up (binB Tryd.prog .leq 5 y3 (.int .u8 122)) H4) H4) fun y5 H6 =>
 S.b (pickV y1 y5 (.bool false) H6) fun y7 H8 =>
 S.b (gd (wd y7 false) (some (x0, H8)) H8) fun y9 H10 =>
 S.b (gd (wd y7 false) (up (binB Tryd.prog .geq 5 y9 (.int .u8 65)) H10) H10) fun y11 H12 =>
 S.b (gd (wd y7 false) (some (y11, H12)) H12) fun y13 H14 =>
 S.b (gd (wd y13 true) (some (x0, H14)) H14) fun y15 H16 =>
 S.b (gd (wd y13 true) (up (binB Tryd.prog .leq 5 y15 (.int .u8 90)) H16) H16) fun y17 H18 =>
 S.b (gd (wd y7 false) (pickV y13 y17 (.bool false) H18) H18) fun y19 H20 =>
 S.b (pickV y7 (.bool true) y19 H20) fun y21 H22 =>
 S.b (gd (wd y21 false) (some (x0, H22)) H22) fun y23 H24 =>
 S.b (gd (wd y21 false) (up (binB Tryd.prog .geq 5 y23 (.int .u8 48)) H24) H24) fun y25 H26 =>
 S.b (gd (wd y21 false) (some (y25, H26)) H26) fun y27 H28 =>
 S.b (gd (wd y27 true) (some (x0, H28)) H28) fun y29 H30 =>
 S.b (gd (wd y27 true) (up (binB Tryd.prog .leq 5 y29 (.int .u8 57)) H30) H30) fun y31 H32 =>
 S.b (gd (wd y21 false) (pickV y27 y31 (.bool false) H32) H32) fun y33 H34 =>
 S.b (pickV y21 (.bool true) y33 H34) fun y35 H36 =>
 S.b (gd (wd y35 false) (some (x0, H36)) H36) fun y37 H38 =>
 S.b (gd (wd y35 false) (up (binB Tryd.prog .eql 5 y37 (.int .u8 95)) H38) H38) fun y39 H40 =>
 S.b (pickV y35 (.bool true) y39 H40) fun y41 H42 =>
 some (y41, H42)

theorem f59_main (S : Seam (Value × Heap)) (C : CallF) (n : Nat) (x0 : Value) (H : Heap) : acodeK S Tryd.prog C n 29 f59_c (env0 [x0]) H (fin Tryd.prog Tryd.f59) = f59 S C n x0 H := by
  kernel_rfl


theorem f59_eq {E : Ext} (hE : E 59 = none) (n : Nat) (x0 : Value) (H : Heap) : acall Tryd.prog true E (n + 1) 59 [x0] H = f59 real (acall Tryd.prog true E n) n x0 H :=
  (acall_eq (N := 29) Tryd.func59 (by kernel_rfl) (by kernel_rfl) hE (by kernel_rfl) (by kernel_rfl)).trans (f59_main real _ n x0 H)

/-! incunable/incunableref14.digit -/
noncomputable def f60_c : Code := (Tryd.f60.body).getD .skip

noncomputable def f60 (S : Seam (Value × Heap)) (C : CallF) (n : Nat) (x0 : Value) (H : Heap) : Option (Value × Heap) :=
 S.b (up (binB Tryd.prog .geq 5 x0 (.int .u8 48)) H) fun y1 H2 =>
 S.b (gd (wd y1 true) (some (x0, H2)) H2) fun y3 H4 =>
 S.b (gd (wd y1 true) (up (binB Tryd.prog .leq 5 y3 (.int .u8 57)) H4) H4) fun y5 H6 =>
 S.b (pickV y1 y5 (.bool false) H6) fun y7 H8 =>
 some (y7, H8)

theorem f60_main (S : Seam (Value × Heap)) (C : CallF) (n : Nat) (x0 : Value) (H : Heap) : acodeK S Tryd.prog C n 9 f60_c (env0 [x0]) H (fin Tryd.prog Tryd.f60) = f60 S C n x0 H := by
  kernel_rfl


theorem f60_eq {E : Ext} (hE : E 60 = none) (n : Nat) (x0 : Value) (H : Heap) : acall Tryd.prog true E (n + 1) 60 [x0] H = f60 real (acall Tryd.prog true E n) n x0 H :=
  (acall_eq (N := 9) Tryd.func60 (by kernel_rfl) (by kernel_rfl) hE (by kernel_rfl) (by kernel_rfl)).trans (f60_main real _ n x0 H)

/-! incunable/incunableref14.kind -/
noncomputable def f61_c : Code := (Tryd.f61.body).getD .skip

noncomputable def f61_L0 (S : Seam (Value × Heap)) (C : CallF) (n : Nat) : Nat → Value → Value → Heap → Option (Value × Heap)
 | 0, _, _, _ => none
 | m + 1, y1, y2, H3 =>
   S.b (up (binB Tryd.prog .leq 3 y2 (.int .i64 13)) H3) fun y4 H5 =>
   S.i y4
   (S.b (C 77 [y2] H5) fun y6 H7 =>
    S.b (up (binB Tryd.prog .eql 9 y1 y6) H7) fun y8 H9 =>
    S.i y8
    (some (y2, H9))
    (S.b (up (binB Tryd.prog .add 3 y2 (.int .i64 1)) H9) fun y10 H11 =>
     f61_L0 S C n m y1 y10 H11))
   (S.b (up (lenStr y1) H5) fun y12 H13 =>
    S.b (up (binB Tryd.prog .gtr 3 y12 (.int .i64 24)) H13) fun y14 H15 =>
    S.i y14
    (some ((.int .i64 0), H15))
    (some ((.int .i64 1), H15)))

theorem f61_L0_eq (S : Seam (Value × Heap)) (C : CallF) (n : Nat) : ∀ (m : Nat) (env : Env) (H : Heap), aloopK (acodeK S Tryd.prog C n 16 (cAt f61_c [1, 0, 1, 0, 0])) m env H (kAt S Tryd.prog C n 16 f61_c [1, 0, 1, 0] (fin Tryd.prog Tryd.f61)) = f61_L0 S C n m (env 0) (env 3) H := by
  intro m env H
  refine aloopK_eq (L := fun m env H => f61_L0 S C n m (env 0) (env 3) H) (fun env H => rfl) (fun m env H => ?_) m env H
  kernel_rfl


noncomputable def f61 (S : Seam (Value × Heap)) (C : CallF) (n : Nat) (x0 : Value) (H : Heap) : Option (Value × Heap) :=
 f61_L0 S C n n x0 (.int .i64 5) H

noncomputable def f61G (S : Seam (Value × Heap)) (C : CallF) (n : Nat) (P0 : Env → Heap → Option (Value × Heap)) (x0 : Value) (H : Heap) : Option (Value × Heap) :=
 P0 (putE 16 (putE 16 (env0 [x0]) (some 2) (.int .i64 0)) (some 3) (.int .i64 5)) H

theorem f61_main (S : Seam (Value × Heap)) (C : CallF) (n : Nat) (x0 : Value) (H : Heap) : acodeK S Tryd.prog C n 16 f61_c (env0 [x0]) H (fin Tryd.prog Tryd.f61) = f61 S C n x0 H := by
  have h1 : acodeK S Tryd.prog C n 16 f61_c (env0 [x0]) H (fin Tryd.prog Tryd.f61) = f61G S C n (fun env H => aloopK (acodeK S Tryd.prog C n 16 (cAt f61_c [1, 0, 1, 0, 0])) n env H (kAt S Tryd.prog C n 16 f61_c [1, 0, 1, 0] (fin Tryd.prog Tryd.f61))) x0 H := by kernel_rfl
  have e0 : (fun env H => aloopK (acodeK S Tryd.prog C n 16 (cAt f61_c [1, 0, 1, 0, 0])) n env H (kAt S Tryd.prog C n 16 f61_c [1, 0, 1, 0] (fin Tryd.prog Tryd.f61))) = (fun env H => f61_L0 S C n n (env 0) (env 3) H) := by funext env H; exact f61_L0_eq S C n n env H
  rw [e0] at h1
  exact h1.trans (by kernel_rfl)


theorem f61_eq {E : Ext} (hE : E 61 = none) (n : Nat) (x0 : Value) (H : Heap) : acall Tryd.prog true E (n + 1) 61 [x0] H = f61 real (acall Tryd.prog true E n) n x0 H :=
  (acall_eq (N := 16) Tryd.func61 (by kernel_rfl) (by kernel_rfl) hE (by kernel_rfl) (by kernel_rfl)).trans (f61_main real _ n x0 H)

/-! (*incunable/incunableref15.reader).is -/
noncomputable def f62_c : Code := (Tryd.f62.body).getD .skip

noncomputable def f62 (S : Seam (Value × Heap)) (C : CallF) (n : Nat) (x0 : Value) (x1 : Value) (x2 : Value) (H : Heap) : Option (Value × Heap) :=
 S.b (nilC x0 H) fun y1 H2 =>
 S.b (up (fAddr 3 y1) H2) fun y3 H4 =>
 S.c true (S.b (ldC y3 H4) fun y5 H6 =>
 S.b (gd (wd y5 false) (some (x0, H6)) H6) fun y7 H8 =>
 S.b (gd (wd y5 false) (nilC y7 H8) H8) fun y9 H10 =>
 S.b (gd (wd y5 false) (up (fAddr 2 y9) H10) H10) fun y11 H12 =>
 S.c (!(wd y5 false) || true) (S.b (gd (wd y5 false) (ldC y11 H12) H12) fun y13 H14 =>
 S.b (gd (wd y5 false) (some (x0, H14)) H14) fun y15 H16 =>
 S.b (gd (wd y5 false) (nilC y15 H16) H16) fun y17 H18 =>
 S.b (gd (wd y5 false) (up (fAddr 1 y17) H18) H18) fun y19 H20 =>
 S.c (!(wd y5 false) || true) (S.b (gd (wd y5 false) (ldC y19 H20) H20) fun y21 H22 =>
 S.b (gd (wd y5 false) (up (lenS y21) H22) H22) fun y23 H24 =>
 S.b (gd (wd y5 false) (up (binB Tryd.prog .geq 3 y13 y23) H24) H24) fun y25 H26 =>
 S.b (pickV y5 (.bool true) y25 H26) fun y27 H28 =>
 S.i y27
 (some ((.bool false), H28))
 (S.b (nilC x0 H28) fun y29 H30 =>
  S.b (up (fAddr 1 y29) H30) fun y31 H32 =>
  S.c true (S.b (ldC y31 H32) fun y33 H34 =>
  S.b (nilC x0 H34) fun y35 H36 =>
  S.b (up (fAddr 2 y35) H36) fun y37 H38 =>
  S.c true (S.b (ldC y37 H38) fun y39 H40 =>
  S.b (up (iAddrS 3 y33 y39) H40) fun y41 H42 =>
  S.c true (S.b (ldA 3 y41 H42) fun y43 H44 =>
  S.b (newV [(.int .i64 0), (.int .i64 0), (.int .i64 0)] H44) fun y45 H46 =>
  S.b (stV 3 y45 y43 H46) fun _ H47 =>
  S.c true (S.b (up (fAddr 0 y45) H47) fun y48 H49 =>
   S.c true (S.b (ldC y48 H49) fun y50 H51 =>
   S.b (up (binB Tryd.prog .eql 3 y50 x1) H51) fun y52 H53 =>
   S.b (gd (wd y52 true) (some (x1, H53)) H53) fun y54 H55 =>
   S.b (gd (wd y52 true) (up (binB Tryd.prog .neq 3 y54 (.int .i64 4)) H55) H55) fun y56 H57 =>
   S.b (gd (wd y52 true) (some (y56, H57)) H57) fun y58 H59 =>
   S.b (gd (wd y58 false) (some (x0, H59)) H59) fun y60 H61 =>
   S.b (gd (wd y58 false) (nilC y60 H61) H61) fun y62 H63 =>
   S.b (gd (wd y58 false) (up (fAddr 0 y62) H63) H63) fun y64 H65 =>
   S.c (!(wd y58 false) || true) (S.b (gd (wd y58 false) (ldC y64 H65) H65) fun y66 H67 =>
   S.b (gd (wd y58 false) (up (fAddr 1 y45) H67) H67) fun y68 H69 =>
   S.c (!(wd y58 false) || true) (S.b (gd (wd y58 false) (ldC y68 H69) H69) fun y70 H71 =>
   S.b (gd (wd y58 false) (up (fAddr 2 y45) H71) H71) fun y72 H73 =>
   S.c (!(wd y58 false) || true) (S.b (gd (wd y58 false) (ldC y72 H73) H73) fun y74 H75 =>
   S.b (gd (wd y58 false) (up (slcS 1 y66 (some y70) (some y74) none) H75) H75) fun y76 H77 =>
   S.c (!(wd y58 false) || true) (S.b (gd (wd y58 false) (toStr y76 H77) H77) fun y78 H79 =>
   S.b (gd (wd y58 false) (some (x2, H79)) H79) fun y80 H81 =>
   S.b (gd (wd y58 false) (up (binB Tryd.prog .eql 9 y78 y80) H81) H81) fun y82 H83 =>
   S.b (gd (wd y52 true) (pickV y58 (.bool true) y82 H83) H83) fun y84 H85 =>
   S.b (pickV y52 y84 (.bool false) H85) fun y86 H87 =>
   some (y86, H87))))))))))))))

theorem f62_main (S : Seam (Value × Heap)) (C : CallF) (n : Nat) (x0 : Value) (x1 : Value) (x2 : Value) (H : Heap) : acodeK S Tryd.prog C n 56 f62_c (env0 [x0, x1, x2]) H (fin Tryd.prog Tryd.f62) = f62 S C n x0 x1 x2 H := by
  kernel_rfl


theorem f62_eq {E : Ext} (hE : E 62 = none) (n : Nat) (x0 : Value) (x1 : Value) (x2 : Value) (H : Heap) : acall Tryd.prog true E (n + 1) 62 [x0, x1, x2] H = f62 real (acall Tryd.prog true E n) n x0 x1 x2 H :=
  (acall_eq (N := 56) Tryd.func62 (by kernel_rfl) (by kernel_rfl) hE (by kernel_rfl) (by kernel_rfl)).trans (f62_main real _ n x0 x1 x2 H)

/-! (*incunable/incunableref15.reader).way -/
noncomputable def f63_c : Code := (Tryd.f63.body).getD .skip

noncomputable def f63_J1 (S : Seam (Value × Heap)) (C : CallF) (n : Nat) (y33 y34 : Value) (H35 : Heap) : Option (Value × Heap) :=
 S.b (ldA 2 y34 H35) fun y36 H37 =>
 S.b (stV 2 y33 y36 H37) fun _ H38 =>
 (resM [(ldA 2 y33 H38).map (·.1)]).map fun l => (one l, H38)

noncomputable def f63_L0 (S : Seam (Value × Heap)) (C : CallF) (n : Nat) : Nat → Value → Value → Value → Heap → Option (Value × Heap)
 | 0, _, _, _, _ => none
 | m + 1, y5, y6, y7, H8 =>
   S.b (C 62 [y5, (.int .i64 1), (.string ⟨#[]⟩)] H8) fun y9 H10 =>
   S.i y9
   (S.b (up (fAddr 0 y7) H10) fun y11 H12 =>
    S.c true (S.b (ldC y11 H12) fun y13 H14 =>
    S.b (C 39 [y5, (.int .i64 1), (.string ⟨#[]⟩)] H14) fun y15 H16 =>
    S.c (sameBlk H14 H16 (blkOf y11) && true) (S.b (bldS 1 1 [(.string ⟨#[]⟩)] [(0, 1, y15)] H16) fun y17 H18 =>
     S.b (app 1 16 y13 y17 H18) fun y19 H20 =>
     S.c true (S.b (up (fAddr 0 y7) H20) fun y21 H22 =>
      S.b (stV 1 y21 y19 H22) fun _ H23 =>
      S.c true (f63_L0 S C n m y5 y6 y7 H23)))))
   (S.b (C 62 [y5, (.int .i64 13), (.string ⟨#[]⟩)] H10) fun y24 H25 =>
    S.i y24
    (S.b (C 39 [y5, (.int .i64 13), (.string ⟨#[]⟩)] H25) fun y26 H27 =>
     S.b (C 39 [y5, (.int .i64 1), (.string ⟨#[]⟩)] H27) fun y28 H29 =>
     S.b (up (fAddr 1 y7) H29) fun y30 H31 =>
     S.b (stV 1 y30 y28 H31) fun _ H32 =>
     f63_J1 S C n y6 y7 H32)
    (f63_J1 S C n y6 y7 H25))

theorem f63_L0_eq (S : Seam (Value × Heap)) (C : CallF) (n : Nat) : ∀ (m : Nat) (env : Env) (H : Heap), aloopK (acodeK S Tryd.prog C n 21 (cAt f63_c [1, 1, 0, 0, 0])) m env H (kAt S Tryd.prog C n 21 f63_c [1, 1, 0, 0] (fin Tryd.prog Tryd.f63)) = f63_L0 S C n m (env 0) (env 2) (env 3) H := by
  intro m env H
  refine aloopK_eq (L := fun m env H => f63_L0 S C n m (env 0) (env 2) (env 3) H) (fun env H => rfl) (fun m env H => ?_) m env H
  kernel_rfl


noncomputable def f63 (S : Seam (Value × Heap)) (C : CallF) (n : Nat) (x0 : Value) (H : Heap) : Option (Value × Heap) :=
 S.b (newV [(.slice none 0 0), (.string ⟨#[]⟩)] H) fun y1 H2 =>
 S.b (newV [(.slice none 0 0), (.string ⟨#[]⟩)] H2) fun y3 H4 =>
 f63_L0 S C n n x0 y1 y3 H4

noncomputable def f63G (S : Seam (Value × Heap)) (C : CallF) (n : Nat) (P0 : Env → Heap → Option (Value × Heap)) (x0 : Value) (H : Heap) : Option (Value × Heap) :=
 S.b (newV [(.slice none 0 0), (.string ⟨#[]⟩)] H) fun y39 H40 =>
 S.b (newV [(.slice none 0 0), (.string ⟨#[]⟩)] H40) fun y41 H42 =>
 P0 (putE 21 (putE 21 (env0 [x0]) (some 2) y39) (some 3) y41) H42

theorem f63_main (S : Seam (Value × Heap)) (C : CallF) (n : Nat) (x0 : Value) (H : Heap) : acodeK S Tryd.prog C n 21 f63_c (env0 [x0]) H (fin Tryd.prog Tryd.f63) = f63 S C n x0 H := by
  have h1 : acodeK S Tryd.prog C n 21 f63_c (env0 [x0]) H (fin Tryd.prog Tryd.f63) = f63G S C n (fun env H => aloopK (acodeK S Tryd.prog C n 21 (cAt f63_c [1, 1, 0, 0, 0])) n env H (kAt S Tryd.prog C n 21 f63_c [1, 1, 0, 0] (fin Tryd.prog Tryd.f63))) x0 H := by kernel_rfl
  have e0 : (fun env H => aloopK (acodeK S Tryd.prog C n 21 (cAt f63_c [1, 1, 0, 0, 0])) n env H (kAt S Tryd.prog C n 21 f63_c [1, 1, 0, 0] (fin Tryd.prog Tryd.f63))) = (fun env H => f63_L0 S C n n (env 0) (env 2) (env 3) H) := by funext env H; exact f63_L0_eq S C n n env H
  rw [e0] at h1
  exact h1.trans (by kernel_rfl)


theorem f63_eq {E : Ext} (hE : E 63 = none) (n : Nat) (x0 : Value) (H : Heap) : acall Tryd.prog true E (n + 1) 63 [x0] H = f63 real (acall Tryd.prog true E n) n x0 H :=
  (acall_eq (N := 21) Tryd.func63 (by kernel_rfl) (by kernel_rfl) hE (by kernel_rfl) (by kernel_rfl)).trans (f63_main real _ n x0 H)

/-! (*bytes.asciiSet).contains -/
noncomputable def f64_c : Code := (Tryd.f64.body).getD .skip

noncomputable def f64 (S : Seam (Value × Heap)) (C : CallF) (n : Nat) (x0 : Value) (x1 : Value) (H : Heap) : Option (Value × Heap) :=
 S.b (nilC x0 H) fun y1 H2 =>
 S.b (up (iAddrA 256 1 y1 x1) H2) fun y3 H4 =>
 S.b (ldC y3 H4) fun y5 H6 =>
 some (y5, H6)

theorem f64_main (S : Seam (Value × Heap)) (C : CallF) (n : Nat) (x0 : Value) (x1 : Value) (H : Heap) : acodeK S Tryd.prog C n 10 f64_c (env0 [x0, x1]) H (fin Tryd.prog Tryd.f64) = f64 S C n x0 x1 H := by
  kernel_rfl


theorem f64_eq {E : Ext} (hE : E 64 = none) (n : Nat) (x0 : Value) (x1 : Value) (H : Heap) : acall Tryd.prog true E (n + 1) 64 [x0, x1] H = f64 real (acall Tryd.prog true E n) n x0 x1 H :=
  (acall_eq (N := 10) Tryd.func64 (by kernel_rfl) (by kernel_rfl) hE (by kernel_rfl) (by kernel_rfl)).trans (f64_main real _ n x0 x1 H)

/-! bytes.IndexByte -/
noncomputable def f67_c : Code := (Tryd.f67.body).getD .skip

noncomputable def f67 (S : Seam (Value × Heap)) (C : CallF) (n : Nat) (x0 : Value) (x1 : Value) (H : Heap) : Option (Value × Heap) :=
 S.b (C 79 [x0, x1] H) fun y1 H2 =>
 some (y1, H2)

theorem f67_main (S : Seam (Value × Heap)) (C : CallF) (n : Nat) (x0 : Value) (x1 : Value) (H : Heap) : acodeK S Tryd.prog C n 8 f67_c (env0 [x0, x1]) H (fin Tryd.prog Tryd.f67) = f67 S C n x0 x1 H := by
  kernel_rfl


theorem f67_eq {E : Ext} (hE : E 67 = none) (n : Nat) (x0 : Value) (x1 : Value) (H : Heap) : acall Tryd.prog true E (n + 1) 67 [x0, x1] H = f67 real (acall Tryd.prog true E n) n x0 x1 H :=
  (acall_eq (N := 8) Tryd.func67 (by kernel_rfl) (by kernel_rfl) hE (by kernel_rfl) (by kernel_rfl)).trans (f67_main real _ n x0 x1 H)

/-! internal/stringslite.IndexByte -/
noncomputable def f72_c : Code := (Tryd.f72.body).getD .skip

noncomputable def f72 (S : Seam (Value × Heap)) (C : CallF) (n : Nat) (x0 : Value) (x1 : Value) (H : Heap) : Option (Value × Heap) :=
 S.b (C 81 [x0, x1] H) fun y1 H2 =>
 some (y1, H2)

theorem f72_main (S : Seam (Value × Heap)) (C : CallF) (n : Nat) (x0 : Value) (x1 : Value) (H : Heap) : acodeK S Tryd.prog C n 8 f72_c (env0 [x0, x1]) H (fin Tryd.prog Tryd.f72) = f72 S C n x0 x1 H := by
  kernel_rfl


theorem f72_eq {E : Ext} (hE : E 72 = none) (n : Nat) (x0 : Value) (x1 : Value) (H : Heap) : acall Tryd.prog true E (n + 1) 72 [x0, x1] H = f72 real (acall Tryd.prog true E n) n x0 x1 H :=
  (acall_eq (N := 8) Tryd.func72 (by kernel_rfl) (by kernel_rfl) hE (by kernel_rfl) (by kernel_rfl)).trans (f72_main real _ n x0 x1 H)

/-! strings.ContainsFunc -/
noncomputable def f73_c : Code := (Tryd.f73.body).getD .skip

noncomputable def f73 (S : Seam (Value × Heap)) (C : CallF) (n : Nat) (x0 : Value) (x1 : Value) (H : Heap) : Option (Value × Heap) :=
 S.b (C 82 [x0, x1] H) fun y1 H2 =>
 S.b (up (binB Tryd.prog .geq 3 y1 (.int .i64 0)) H2) fun y3 H4 =>
 some (y3, H4)

theorem f73_main (S : Seam (Value × Heap)) (C : CallF) (n : Nat) (x0 : Value) (x1 : Value) (H : Heap) : acodeK S Tryd.prog C n 9 f73_c (env0 [x0, x1]) H (fin Tryd.prog Tryd.f73) = f73 S C n x0 x1 H := by
  kernel_rfl


theorem f73_eq {E : Ext} (hE : E 73 = none) (n : Nat) (x0 : Value) (x1 : Value) (H : Heap) : acall Tryd.prog true E (n + 1) 73 [x0, x1] H = f73 real (acall Tryd.prog true E n) n x0 x1 H :=
  (acall_eq (N := 9) Tryd.func73 (by kernel_rfl) (by kernel_rfl) hE (by kernel_rfl) (by kernel_rfl)).trans (f73_main real _ n x0 x1 H)

/-! incunable/words.IsPath$1 -/
noncomputable def f74_c : Code := (Tryd.f74.body).getD .skip

noncomputable def f74 (S : Seam (Value × Heap)) (C : CallF) (n : Nat) (x0 : Value) (H : Heap) : Option (Value × Heap) :=
 S.b (up (binB Tryd.prog .leq 21 (.int .i32 97) x0) H) fun y1 H2 =>
 S.b (gd (wd y1 true) (some (x0, H2)) H2) fun y3 H4 =>
 S.b (gd (wd y1 true) (up (binB Tryd.prog .leq 21 y3 (.int .i32 122)) H4) H4) fun y5 H6 =>
 S.b (pickV y1 y5 (.bool false) H6) fun y7 H8 =>
 S.b (gd (wd y7 false) (some (x0, H8)) H8) fun y9 H10 =>
 S.b (gd (wd y7 false) (up (binB Tryd.prog .leq 21 (.int .i32 48) y9) H10) H10) fun y11 H12 =>
 S.b (gd (wd y7 false) (some (y11, H12)) H12) fun y13 H14 =>
 S.b (gd (wd y13 true) (some (x0, H14)) H14) fun y15 H16 =>
 S.b (gd (wd y13 true) (up (binB Tryd.prog .leq 21 y15 (.int .i32 57)) H16) H16) fun y17 H18 =>
 S.b (gd (wd y7 false) (pickV y13 y17 (.bool false) H18) H18) fun y19 H20 =>
 S.b (pickV y7 (.bool true) y19 H20) fun y21 H22 =>
 S.b (gd (wd y21 false) (some (x0, H22)) H22) fun y23 H24 =>
 S.b (gd (wd y21 false) (C 75 [(.string ⟨#[46, 95, 45, 47]⟩), y23] H24) H24) fun y25 H26 =>
 S.b (pickV y21 (.bool true) y25 H26) fun y27 H28 =>
 S.b (up (unB .not y27) H28) fun y29 H30 =>
 some (y29, H30)

theorem f74_main (S : Seam (Value × Heap)) (C : CallF) (n : Nat) (x0 : Value) (H : Heap) : acodeK S Tryd.prog C n 22 f74_c (env0 [x0]) H (fin Tryd.prog Tryd.f74) = f74 S C n x0 H := by
  kernel_rfl


theorem f74_eq {E : Ext} (hE : E 74 = none) (n : Nat) (x0 : Value) (H : Heap) : acall Tryd.prog true E (n + 1) 74 [x0] H = f74 real (acall Tryd.prog true E n) n x0 H :=
  (acall_eq (N := 22) Tryd.func74 (by kernel_rfl) (by kernel_rfl) hE (by kernel_rfl) (by kernel_rfl)).trans (f74_main real _ n x0 H)

/-! strings.ContainsRune -/
noncomputable def f75_c : Code := (Tryd.f75.body).getD .skip

noncomputable def f75 (S : Seam (Value × Heap)) (C : CallF) (n : Nat) (x0 : Value) (x1 : Value) (H : Heap) : Option (Value × Heap) :=
 S.b (C 83 [x0, x1] H) fun y1 H2 =>
 S.b (up (binB Tryd.prog .geq 3 y1 (.int .i64 0)) H2) fun y3 H4 =>
 some (y3, H4)

theorem f75_main (S : Seam (Value × Heap)) (C : CallF) (n : Nat) (x0 : Value) (x1 : Value) (H : Heap) : acodeK S Tryd.prog C n 9 f75_c (env0 [x0, x1]) H (fin Tryd.prog Tryd.f75) = f75 S C n x0 x1 H := by
  kernel_rfl


theorem f75_eq {E : Ext} (hE : E 75 = none) (n : Nat) (x0 : Value) (x1 : Value) (H : Heap) : acall Tryd.prog true E (n + 1) 75 [x0, x1] H = f75 real (acall Tryd.prog true E n) n x0 x1 H :=
  (acall_eq (N := 9) Tryd.func75 (by kernel_rfl) (by kernel_rfl) hE (by kernel_rfl) (by kernel_rfl)).trans (f75_main real _ n x0 x1 H)

/-! (*incunable/gram.reader).next -/
noncomputable def f76_c : Code := (Tryd.f76.body).getD .skip

noncomputable def f76 (S : Seam (Value × Heap)) (C : CallF) (n : Nat) (x0 : Value) (x1 : Value) (x2 : Value) (H : Heap) : Option (Value × Heap) :=
 S.b (nilC x0 H) fun y1 H2 =>
 S.b (up (fAddr 2 y1) H2) fun y3 H4 =>
 S.b (ldC y3 H4) fun y5 H6 =>
 S.b (gd (wd y5 false) (some (x0, H6)) H6) fun y7 H8 =>
 S.b (gd (wd y5 false) (nilC y7 H8) H8) fun y9 H10 =>
 S.b (gd (wd y5 false) (up (fAddr 1 y9) H10) H10) fun y11 H12 =>
 S.b (gd (wd y5 false) (ldC y11 H12) H12) fun y13 H14 =>
 S.b (gd (wd y5 false) (up (lenS y13) H14) H14) fun y15 H16 =>
 S.b (gd (wd y5 false) (up (binB Tryd.prog .eql 3 y15 (.int .i64 0)) H16) H16) fun y17 H18 =>
 S.b (pickV y5 (.bool true) y17 H18) fun y19 H20 =>
 S.b (gd (wd y19 false) (some (x0, H20)) H20) fun y21 H22 =>
 S.b (gd (wd y19 false) (nilC y21 H22) H22) fun y23 H24 =>
 S.b (gd (wd y19 false) (up (fAddr 1 y23) H24) H24) fun y25 H26 =>
 S.b (gd (wd y19 false) (ldC y25 H26) H26) fun y27 H28 =>
 S.b (gd (wd y19 false) (up (iAddrS 3 y27 (.int .i64 0)) H28) H28) fun y29 H30 =>
 S.b (gd (wd y19 false) (up (fAddr 0 y29) H30) H30) fun y31 H32 =>
 S.b (gd (wd y19 false) (ldC y31 H32) H32) fun y33 H34 =>
 S.b (gd (wd y19 false) (some (x1, H34)) H34) fun y35 H36 =>
 S.b (gd (wd y19 false) (up (binB Tryd.prog .neq 3 y33 y35) H36) H36) fun y37 H38 =>
 S.b (pickV y19 (.bool true) y37 H38) fun y39 H40 =>
 S.i y39
 (some (.tuple #[(.string ⟨#[]⟩), (.bool false)], H40))
 (S.b (nilC x0 H40) fun y41 H42 =>
  S.b (up (fAddr 1 y41) H42) fun y43 H44 =>
  S.b (ldC y43 H44) fun y45 H46 =>
  S.b (up (iAddrS 3 y45 (.int .i64 0)) H46) fun y47 H48 =>
  S.b (ldA 3 y47 H48) fun y49 H50 =>
  S.b (C 84 [x0, y49] H50) fun y51 H52 =>
  S.b (up (binB Tryd.prog .neq 3 x1 (.int .i64 4)) H52) fun y53 H54 =>
  S.b (gd (wd y53 false) (some (y51, H54)) H54) fun y55 H56 =>
  S.b (gd (wd y53 false) (some (x2, H56)) H56) fun y57 H58 =>
  S.b (gd (wd y53 false) (up (binB Tryd.prog .eql 9 y55 y57) H58) H58) fun y59 H60 =>
  S.b (pickV y53 (.bool true) y59 H60) fun y61 H62 =>
  some (.tuple #[y51, y61], H62))

theorem f76_main (S : Seam (Value × Heap)) (C : CallF) (n : Nat) (x0 : Value) (x1 : Value) (x2 : Value) (H : Heap) : acodeK S Tryd.prog C n 48 f76_c (env0 [x0, x1, x2]) H (fin Tryd.prog Tryd.f76) = f76 S C n x0 x1 x2 H := by
  kernel_rfl


theorem f76_eq {E : Ext} (hE : E 76 = none) (n : Nat) (x0 : Value) (x1 : Value) (x2 : Value) (H : Heap) : acall Tryd.prog true E (n + 1) 76 [x0, x1, x2] H = f76 real (acall Tryd.prog true E n) n x0 x1 x2 H :=
  (acall_eq (N := 48) Tryd.func76 (by kernel_rfl) (by kernel_rfl) hE (by kernel_rfl) (by kernel_rfl)).trans (f76_main real _ n x0 x1 x2 H)

/-! incunable/incunableref14.Spelled -/
noncomputable def f77_c : Code := (Tryd.f77.body).getD .skip

noncomputable def f77 (S : Seam (Value × Heap)) (C : CallF) (n : Nat) (x0 : Value) (H : Heap) : Option (Value × Heap) :=
 S.b (up (binB Tryd.prog .eql 3 x0 (.int .i64 5)) H) fun y1 H2 =>
 S.i y1
 (some ((.string ⟨#[105, 109, 112, 111, 114, 116]⟩), H2))
 (S.b (up (binB Tryd.prog .eql 3 x0 (.int .i64 6)) H2) fun y3 H4 =>
  S.i y3
  (some ((.string ⟨#[115, 116, 97, 114, 116]⟩), H4))
  (S.b (up (binB Tryd.prog .eql 3 x0 (.int .i64 7)) H4) fun y5 H6 =>
   S.i y5
   (some ((.string ⟨#[116, 101, 114, 109]⟩), H6))
   (S.b (up (binB Tryd.prog .eql 3 x0 (.int .i64 8)) H6) fun y7 H8 =>
    S.i y7
    (some ((.string ⟨#[115, 107, 105, 112]⟩), H8))
    (S.b (up (binB Tryd.prog .eql 3 x0 (.int .i64 9)) H8) fun y9 H10 =>
     S.i y9
     (some ((.string ⟨#[108, 101, 102, 116]⟩), H10))
     (S.b (up (binB Tryd.prog .eql 3 x0 (.int .i64 10)) H10) fun y11 H12 =>
      S.i y11
      (some ((.string ⟨#[114, 105, 103, 104, 116]⟩), H12))
      (S.b (up (binB Tryd.prog .eql 3 x0 (.int .i64 11)) H12) fun y13 H14 =>
       S.i y13
       (some ((.string ⟨#[110, 111, 110, 101]⟩), H14))
       (S.b (up (binB Tryd.prog .eql 3 x0 (.int .i64 12)) H14) fun y15 H16 =>
        S.i y15
        (some ((.string ⟨#[114, 117, 108, 101]⟩), H16))
        (S.b (up (binB Tryd.prog .eql 3 x0 (.int .i64 13)) H16) fun y17 H18 =>
         S.i y17
         (some ((.string ⟨#[112, 114, 101, 99]⟩), H18))
         (some ((.string ⟨#[]⟩), H18))))))))))

theorem f77_main (S : Seam (Value × Heap)) (C : CallF) (n : Nat) (x0 : Value) (H : Heap) : acodeK S Tryd.prog C n 22 f77_c (env0 [x0]) H (fin Tryd.prog Tryd.f77) = f77 S C n x0 H := by
  kernel_rfl


theorem f77_eq {E : Ext} (hE : E 77 = none) (n : Nat) (x0 : Value) (H : Heap) : acall Tryd.prog true E (n + 1) 77 [x0] H = f77 real (acall Tryd.prog true E n) n x0 H :=
  (acall_eq (N := 22) Tryd.func77 (by kernel_rfl) (by kernel_rfl) hE (by kernel_rfl) (by kernel_rfl)).trans (f77_main real _ n x0 H)

/-! strings.IndexFunc -/
noncomputable def f82_c : Code := (Tryd.f82.body).getD .skip

noncomputable def f82 (S : Seam (Value × Heap)) (C : CallF) (n : Nat) (x0 : Value) (x1 : Value) (H : Heap) : Option (Value × Heap) :=
 S.b (C 85 [x0, x1, (.bool true)] H) fun y1 H2 =>
 some (y1, H2)

theorem f82_main (S : Seam (Value × Heap)) (C : CallF) (n : Nat) (x0 : Value) (x1 : Value) (H : Heap) : acodeK S Tryd.prog C n 8 f82_c (env0 [x0, x1]) H (fin Tryd.prog Tryd.f82) = f82 S C n x0 x1 H := by
  kernel_rfl


theorem f82_eq {E : Ext} (hE : E 82 = none) (n : Nat) (x0 : Value) (x1 : Value) (H : Heap) : acall Tryd.prog true E (n + 1) 82 [x0, x1] H = f82 real (acall Tryd.prog true E n) n x0 x1 H :=
  (acall_eq (N := 8) Tryd.func82 (by kernel_rfl) (by kernel_rfl) hE (by kernel_rfl) (by kernel_rfl)).trans (f82_main real _ n x0 x1 H)

/-! strings.IndexRune -/
noncomputable def f83_c : Code := (Tryd.f83.body).getD .skip

noncomputable def f83_L0 (S : Seam (Value × Heap)) (C : CallF) (n : Nat) : Nat → Value → Heap → Option (Value × Heap)
 | 0, _, _ => none
 | m + 1, y17, H18 =>
   S.b (nxtS y17 H18) fun y19 H20 =>
   S.b (extr 0 y19 H20) fun y21 H22 =>
   S.i y21
   (S.b (extr 1 y19 H22) fun y23 H24 =>
    S.b (extr 2 y19 H24) fun y25 H26 =>
    S.b (up (binB Tryd.prog .eql 21 y25 (.int .i32 65533)) H26) fun y27 H28 =>
    S.i y27
    (some (y23, H28))
    (f83_L0 S C n m y17 H28))
   (some ((.int .i64 (-1)), H22))

theorem f83_L0_eq (S : Seam (Value × Heap)) (C : CallF) (n : Nat) : ∀ (m : Nat) (env : Env) (H : Heap), aloopK (acodeK S Tryd.prog C n 187 (cAt f83_c [1, 0, 1, 1, 1, 0, 0, 1, 0, 0])) m env H (kAt S Tryd.prog C n 187 f83_c [1, 0, 1, 1, 1, 0, 0, 1, 0] (fin Tryd.prog Tryd.f83)) = f83_L0 S C n m (env 175) H := by
  intro m env H
  refine aloopK_eq (L := fun m env H => f83_L0 S C n m (env 175) H) (fun env H => rfl) (fun m env H => ?_) m env H
  kernel_rfl


noncomputable def f83_L2 (S : Seam (Value × Heap)) (C : CallF) (n : Nat) (R1 : Value→Value→Value→Value→Heap→Option (Value × Heap)) : Nat → Value → Value → Value → Value → Value → Heap → Option (Value × Heap)
 | 0, _, _, _, _, _, _ => none
 | m + 1, y73, y74, y75, y76, y77, H78 =>
   S.b (up (lenStr y74) H78) fun y79 H80 =>
   S.b (up (binB Tryd.prog .lss 3 y77 y79) H80) fun y81 H82 =>
   S.i y81
   (S.b (up (binB Tryd.prog .sub 3 y76 y77) H82) fun y83 H84 =>
    S.b (up (idxS y73 y83) H84) fun y85 H86 =>
    S.b (up (binB Tryd.prog .sub 3 y75 y77) H86) fun y87 H88 =>
    S.b (up (idxS y74 y87) H88) fun y89 H90 =>
    S.b (up (binB Tryd.prog .neq 5 y85 y89) H90) fun y91 H92 =>
    S.i y91
    (none)
    (S.b (up (binB Tryd.prog .add 3 y77 (.int .i64 1)) H92) fun y93 H94 =>
     f83_L2 S C n R1 m y73 y74 y75 y76 y93 H94))
   (S.b (up (binB Tryd.prog .sub 3 y76 y75) H82) fun y95 H96 =>
    some (y95, H96))

theorem f83_L2_eq (S : Seam (Value × Heap)) (C : CallF) (n : Nat) (R1 : Value→Value→Value→Value→Heap→Option (Value × Heap)) : ∀ (m : Nat) (env : Env) (H : Heap), aloopK (acodeK S Tryd.prog C n 187 (cAt f83_c [1, 0, 1, 1, 1, 1, 1, 1, 0, 1, 1, 1, 1, 0, 0, 0, 1, 0, 0, 1, 0, 1, 0, 0])) m env H (kAt S Tryd.prog C n 187 (cAt f83_c [1, 0, 1, 1, 1, 1, 1, 1, 0, 1, 1, 1, 1, 0, 0, 0]) [1, 0, 0, 1, 0, 1, 0] (onNormal (fun env' H' => R1 (env' 0) (env' 7) (env' 8) (env' 9) H') (kAt S Tryd.prog C n 187 f83_c [1, 0, 1, 1, 1, 1, 1, 1, 0, 1, 1, 1, 1, 0, 0] (fin Tryd.prog Tryd.f83)))) = f83_L2 S C n R1 m (env 0) (env 7) (env 8) (env 9) (env 12) H := by
  intro m env H
  refine aloopK_eq (L := fun m env H => f83_L2 S C n R1 m (env 0) (env 7) (env 8) (env 9) (env 12) H) (fun env H => rfl) (fun m env H => ?_) m env H
  kernel_rfl


noncomputable def f83_L1 (S : Seam (Value × Heap)) (C : CallF) (n : Nat) : Nat → Value → Value → Value → Value → Heap → Option (Value × Heap)
 | 0, _, _, _, _, _ => none
 | m + 1, y39, y40, y41, y42, H43 =>
   S.b (up (lenStr y39) H43) fun y44 H45 =>
   S.b (up (binB Tryd.prog .lss 3 y42 y44) H45) fun y46 H47 =>
   S.i y46
   (S.b (up (idxS y39 y42) H47) fun y48 H49 =>
    S.b (up (idxS y40 y41) H49) fun y50 H51 =>
    S.b (up (binB Tryd.prog .neq 5 y48 y50) H51) fun y52 H53 =>
    S.i y52
    (S.b (up (binB Tryd.prog .add 3 y42 (.int .i64 1)) H53) fun y54 H55 =>
     S.b (up (slcStr y39 (some y54) none) H55) fun y56 H57 =>
     S.b (up (idxS y40 y41) H57) fun y58 H59 =>
     S.b (C 48 [y56, y58] H59) fun y60 H61 =>
     S.c true (S.b (up (binB Tryd.prog .lss 3 y60 (.int .i64 0)) H61) fun y62 H63 =>
      S.i y62
      (some ((.int .i64 (-1)), H63))
      (S.b (up (binB Tryd.prog .add 3 y60 (.int .i64 1)) H63) fun y64 H65 =>
       S.b (up (binB Tryd.prog .add 3 y42 y64) H65) fun y66 H67 =>
       f83_L2 S C n (f83_L1 S C n m) n y39 y40 y41 y66 (.int .i64 1) H67)))
    (f83_L2 S C n (f83_L1 S C n m) n y39 y40 y41 y42 (.int .i64 1) H53))
   (some ((.int .i64 (-1)), H47))

noncomputable def f83_L1G (S : Seam (Value × Heap)) (C : CallF) (n : Nat) (R1 : Value→Value→Value→Value→Heap→Option (Value × Heap)) (P2 : Env → Heap → Option (Value × Heap)) (env : Env) (H : Heap) : Option (Value × Heap) :=
 S.b (up (lenStr (env 0)) H) fun y97 H98 =>
 S.b (up (binB Tryd.prog .lss 3 (env 9) y97) H98) fun y99 H100 =>
 S.i y99
 (S.b (up (idxS (env 0) (env 9)) H100) fun y101 H102 =>
  S.b (up (idxS (env 7) (env 8)) H102) fun y103 H104 =>
  S.b (up (binB Tryd.prog .neq 5 y101 y103) H104) fun y105 H106 =>
  S.i y105
  (S.b (up (binB Tryd.prog .add 3 (env 9) (.int .i64 1)) H106) fun y107 H108 =>
   S.b (up (slcStr (env 0) (some y107) none) H108) fun y109 H110 =>
   S.b (up (idxS (env 7) (env 8)) H110) fun y111 H112 =>
   S.b (C 48 [y109, y111] H112) fun y113 H114 =>
   S.c true (S.b (up (binB Tryd.prog .lss 3 y113 (.int .i64 0)) H114) fun y115 H116 =>
    S.i y115
    (some ((.int .i64 (-1)), H116))
    (S.b (up (binB Tryd.prog .add 3 y113 (.int .i64 1)) H116) fun y117 H118 =>
     S.b (up (binB Tryd.prog .add 3 (env 9) y117) H118) fun y119 H120 =>
     P2 (putE 187 (putE 187 (putE 187 (putE 187 (putE 187 (putE 187 (putE 187 (putE 187 (putE 187 (putE 187 (putE 187 (putE 187 (putE 187 (putE 187 (putE 187 (putE 187 (putE 187 (putE 187 (putE 187 (putE 187 (putE 187 (putE 187 (putE 187 (putE 187 (putE 187 (putE 187 (putE 187 (putE 187 env (some 23) (env 9)) (some 24) (env 0)) (some 25) y97) (some 26) y99) (some 27) (env 0)) (some 28) (env 9)) (some 29) y101) (some 30) (env 7)) (some 31) (env 8)) (some 32) y103) (some 33) y105) (some 34) (env 0)) (some 35) (env 9)) (some 36) y107) (some 37) y109) (some 38) (env 7)) (some 39) (env 8)) (some 40) y111) (some 41) y113) (some 11) y113) (some 42) y113) (some 43) y115) (some 44) (env 9)) (some 45) y113) (some 46) y117) (some 47) y119) (some 9) y119) (some 12) (.int .i64 1)) H120)))
  (P2 (putE 187 (putE 187 (putE 187 (putE 187 (putE 187 (putE 187 (putE 187 (putE 187 (putE 187 (putE 187 (putE 187 (putE 187 env (some 23) (env 9)) (some 24) (env 0)) (some 25) y97) (some 26) y99) (some 27) (env 0)) (some 28) (env 9)) (some 29) y101) (some 30) (env 7)) (some 31) (env 8)) (some 32) y103) (some 33) y105) (some 12) (.int .i64 1)) H106))
 (some ((.int .i64 (-1)), H100))

theorem f83_L1_eq (S : Seam (Value × Heap)) (C : CallF) (n : Nat) : ∀ (m : Nat) (env : Env) (H : Heap), aloopK (acodeK S Tryd.prog C n 187 (cAt f83_c [1, 0, 1, 1, 1, 1, 1, 1, 0, 1, 1, 1, 1, 0, 0, 0])) m env H (kAt S Tryd.prog C n 187 f83_c [1, 0, 1, 1, 1, 1, 1, 1, 0, 1, 1, 1, 1, 0, 0] (fin Tryd.prog Tryd.f83)) = f83_L1 S C n m (env 0) (env 7) (env 8) (env 9) H := by
  intro m env H
  refine aloopK_eq (L := fun m env H => f83_L1 S C n m (env 0) (env 7) (env 8) (env 9) H) (fun env H => rfl) (fun m env H => ?_) m env H
  have h1 : acodeK S Tryd.prog C n 187 (cAt f83_c [1, 0, 1, 1, 1, 1, 1, 1, 0, 1, 1, 1, 1, 0, 0, 0]) env H (onNormal (fun env' H' => f83_L1 S C n m (env' 0) (env' 7) (env' 8) (env' 9) H') (kAt S Tryd.prog C n 187 f83_c [1, 0, 1, 1, 1, 1, 1, 1, 0, 1, 1, 1, 1, 0, 0] (fin Tryd.prog Tryd.f83))) = f83_L1G S C n (f83_L1 S C n m) (fun env H => aloopK (acodeK S Tryd.prog C n 187 (cAt f83_c [1, 0, 1, 1, 1, 1, 1, 1, 0, 1, 1, 1, 1, 0, 0, 0, 1, 0, 0, 1, 0, 1, 0, 0])) n env H (kAt S Tryd.prog C n 187 (cAt f83_c [1, 0, 1, 1, 1, 1, 1, 1, 0, 1, 1, 1, 1, 0, 0, 0]) [1, 0, 0, 1, 0, 1, 0] (onNormal (fun env' H' => (f83_L1 S C n m) (env' 0) (env' 7) (env' 8) (env' 9) H') (kAt S Tryd.prog C n 187 f83_c [1, 0, 1, 1, 1, 1, 1, 1, 0, 1, 1, 1, 1, 0, 0] (fin Tryd.prog Tryd.f83))))) env H := by kernel_rfl
  have e0 : (fun env H => aloopK (acodeK S Tryd.prog C n 187 (cAt f83_c [1, 0, 1, 1, 1, 1, 1, 1, 0, 1, 1, 1, 1, 0, 0, 0, 1, 0, 0, 1, 0, 1, 0, 0])) n env H (kAt S Tryd.prog C n 187 (cAt f83_c [1, 0, 1, 1, 1, 1, 1, 1, 0, 1, 1, 1, 1, 0, 0, 0]) [1, 0, 0, 1, 0, 1, 0] (onNormal (fun env' H' => (f83_L1 S C n m) (env' 0) (env' 7) (env' 8) (env' 9) H') (kAt S Tryd.prog C n 187 f83_c [1, 0, 1, 1, 1, 1, 1, 1, 0, 1, 1, 1, 1, 0, 0] (fin Tryd.prog Tryd.f83))))) = (fun env H => f83_L2 S C n (f83_L1 S C n m) n (env 0) (env 7) (env 8) (env 9) (env 12) H) := by funext env H; exact f83_L2_eq S C n (f83_L1 S C n m) n env H
  rw [e0] at h1
  exact h1.trans (by kernel_rfl)


noncomputable def f83 (S : Seam (Value × Heap)) (C : CallF) (n : Nat) (x0 : Value) (x1 : Value) (H : Heap) : Option (Value × Heap) :=
 S.b (up (binB Tryd.prog .leq 21 (.int .i32 0) x1) H) fun y1 H2 =>
 S.b (gd (wd y1 true) (some (x1, H2)) H2) fun y3 H4 =>
 S.b (gd (wd y1 true) (up (binB Tryd.prog .lss 21 y3 (.int .i32 128)) H4) H4) fun y5 H6 =>
 S.b (pickV y1 y5 (.bool false) H6) fun y7 H8 =>
 S.i y7
 (S.b (cvI .u8 x1 H8) fun y9 H10 =>
  S.b (C 48 [x0, y9] H10) fun y11 H12 =>
  some (y11, H12))
 (S.b (up (binB Tryd.prog .eql 21 x1 (.int .i32 65533)) H8) fun y13 H14 =>
  S.i y13
  (S.b (rngS x0 H14) fun y15 H16 =>
   f83_L0 S C n n y15 H16)
  (S.b (C 86 [x1] H14) fun y29 H30 =>
   S.b (up (unB .not y29) H30) fun y31 H32 =>
   S.i y31
   (some ((.int .i64 (-1)), H32))
   (S.b (cvR x1 H32) fun y33 H34 =>
    S.b (up (lenStr y33) H34) fun y35 H36 =>
    S.b (up (binB Tryd.prog .sub 3 y35 (.int .i64 1)) H36) fun y37 H38 =>
    f83_L1 S C n n x0 y33 y37 y37 H38)))

noncomputable def f83G (S : Seam (Value × Heap)) (C : CallF) (n : Nat) (P0 : Env → Heap → Option (Value × Heap)) (P1 : Env → Heap → Option (Value × Heap)) (x0 : Value) (x1 : Value) (H : Heap) : Option (Value × Heap) :=
 S.b (up (binB Tryd.prog .leq 21 (.int .i32 0) x1) H) fun y121 H122 =>
 S.b (gd (wd y121 true) (some (x1, H122)) H122) fun y123 H124 =>
 S.b (gd (wd y121 true) (up (binB Tryd.prog .lss 21 y123 (.int .i32 128)) H124) H124) fun y125 H126 =>
 S.b (pickV y121 y125 (.bool false) H126) fun y127 H128 =>
 S.i y127
 (S.b (cvI .u8 x1 H128) fun y129 H130 =>
  S.b (C 48 [x0, y129] H130) fun y131 H132 =>
  some (y131, H132))
 (S.b (up (binB Tryd.prog .eql 21 x1 (.int .i32 65533)) H128) fun y133 H134 =>
  S.i y133
  (S.b (rngS x0 H134) fun y135 H136 =>
   P0 (putE 187 (putE 187 (putE 187 (putE 187 (putE 187 (putE 187 (putE 187 (putE 187 (putE 187 (putE 187 (putE 187 (putE 187 (putE 187 (env0 [x0, x1]) (some 4) (.int .i64 0)) (some 161) x1) (some 162) y121) (some 163) y121) (some 164) y123) (some 165) y125) (some 166) y127) (some 160) y127) (some 172) x1) (some 173) y133) (some 171) y133) (some 174) x0) (some 175) y135) H136)
  (S.b (C 86 [x1] H134) fun y137 H138 =>
   S.b (up (unB .not y137) H138) fun y139 H140 =>
   S.i y139
   (some ((.int .i64 (-1)), H140))
   (S.b (cvR x1 H140) fun y141 H142 =>
    S.b (up (lenStr y141) H142) fun y143 H144 =>
    S.b (up (binB Tryd.prog .sub 3 y143 (.int .i64 1)) H144) fun y145 H146 =>
    P1 (putE 187 (putE 187 (putE 187 (putE 187 (putE 187 (putE 187 (putE 187 (putE 187 (putE 187 (putE 187 (putE 187 (putE 187 (putE 187 (putE 187 (putE 187 (putE 187 (putE 187 (putE 187 (putE 187 (putE 187 (putE 187 (putE 187 (putE 187 (putE 187 (putE 187 (env0 [x0, x1]) (some 4) (.int .i64 0)) (some 161) x1) (some 162) y121) (some 163) y121) (some 164) y123) (some 165) y125) (some 166) y127) (some 160) y127) (some 172) x1) (some 173) y133) (some 171) y133) (some 184) x1) (some 185) y137) (some 186) y139) (some 183) y139) (some 17) x1) (some 18) y141) (some 7) y141) (some 19) y141) (some 20) y143) (some 21) y145) (some 8) y145) (some 22) y145) (some 9) y145) (some 10) (.int .i64 0)) H146)))

theorem f83_main (S : Seam (Value × Heap)) (C : CallF) (n : Nat) (x0 : Value) (x1 : Value) (H : Heap) : acodeK S Tryd.prog C n 187 f83_c (env0 [x0, x1]) H (fin Tryd.prog Tryd.f83) = f83 S C n x0 x1 H := by
  have h1 : acodeK S Tryd.prog C n 187 f83_c (env0 [x0, x1]) H (fin Tryd.prog Tryd.f83) = f83G S C n (fun env H => aloopK (acodeK S Tryd.prog C n 187 (cAt f83_c [1, 0, 1, 1, 1, 0, 0, 1, 0, 0])) n env H (kAt S Tryd.prog C n 187 f83_c [1, 0, 1, 1, 1, 0, 0, 1, 0] (fin Tryd.prog Tryd.f83))) (fun env H => aloopK (acodeK S Tryd.prog C n 187 (cAt f83_c [1, 0, 1, 1, 1, 1, 1, 1, 0, 1, 1, 1, 1, 0, 0, 0])) n env H (kAt S Tryd.prog C n 187 f83_c [1, 0, 1, 1, 1, 1, 1, 1, 0, 1, 1, 1, 1, 0, 0] (fin Tryd.prog Tryd.f83))) x0 x1 H := by kernel_rfl
  have e0 : (fun env H => aloopK (acodeK S Tryd.prog C n 187 (cAt f83_c [1, 0, 1, 1, 1, 0, 0, 1, 0, 0])) n env H (kAt S Tryd.prog C n 187 f83_c [1, 0, 1, 1, 1, 0, 0, 1, 0] (fin Tryd.prog Tryd.f83))) = (fun env H => f83_L0 S C n n (env 175) H) := by funext env H; exact f83_L0_eq S C n n env H
  have e1 : (fun env H => aloopK (acodeK S Tryd.prog C n 187 (cAt f83_c [1, 0, 1, 1, 1, 1, 1, 1, 0, 1, 1, 1, 1, 0, 0, 0])) n env H (kAt S Tryd.prog C n 187 f83_c [1, 0, 1, 1, 1, 1, 1, 1, 0, 1, 1, 1, 1, 0, 0] (fin Tryd.prog Tryd.f83))) = (fun env H => f83_L1 S C n n (env 0) (env 7) (env 8) (env 9) H) := by funext env H; exact f83_L1_eq S C n n env H
  rw [e0, e1] at h1
  exact h1.trans (by kernel_rfl)


theorem f83_eq {E : Ext} (hE : E 83 = none) (n : Nat) (x0 : Value) (x1 : Value) (H : Heap) : acall Tryd.prog true E (n + 1) 83 [x0, x1] H = f83 real (acall Tryd.prog true E n) n x0 x1 H :=
  (acall_eq (N := 187) Tryd.func83 (by kernel_rfl) (by kernel_rfl) hE (by kernel_rfl) (by kernel_rfl)).trans (f83_main real _ n x0 x1 H)

/-! (*incunable/gram.reader).spelled -/
noncomputable def f84_c : Code := (Tryd.f84.body).getD .skip

noncomputable def f84 (S : Seam (Value × Heap)) (C : CallF) (n : Nat) (x0 : Value) (x1 : Value) (H : Heap) : Option (Value × Heap) :=
 S.b (newV (Value.cells x1).toList H) fun y1 H2 =>
 S.b (nilC x0 H2) fun y3 H4 =>
 S.b (up (fAddr 0 y3) H4) fun y5 H6 =>
 S.c true (S.b (ldC y5 H6) fun y7 H8 =>
 S.b (up (fAddr 1 y1) H8) fun y9 H10 =>
 S.c true (S.b (ldC y9 H10) fun y11 H12 =>
 S.b (up (fAddr 2 y1) H12) fun y13 H14 =>
 S.c true (S.b (ldC y13 H14) fun y15 H16 =>
 S.b (up (slcS 1 y7 (some y11) (some y15) none) H16) fun y17 H18 =>
 S.c true (S.b (toStr y17 H18) fun y19 H20 =>
 S.b (up (fAddr 0 y1) H20) fun y21 H22 =>
 S.b (ldC y21 H22) fun y23 H24 =>
 S.b (up (binB Tryd.prog .eql 3 y23 (.int .i64 2)) H24) fun y25 H26 =>
 S.b (gd (wd y25 false) (up (fAddr 0 y1) H26) H26) fun y27 H28 =>
 S.b (gd (wd y25 false) (ldC y27 H28) H28) fun y29 H30 =>
 S.b (gd (wd y25 false) (up (binB Tryd.prog .eql 3 y29 (.int .i64 3)) H30) H30) fun y31 H32 =>
 S.b (pickV y25 (.bool true) y31 H32) fun y33 H34 =>
 S.i y33
 (S.b (up (lenStr y19) H34) fun y35 H36 =>
  S.b (up (binB Tryd.prog .sub 3 y35 (.int .i64 1)) H36) fun y37 H38 =>
  S.b (up (slcStr y19 (some (.int .i64 1)) (some y37)) H38) fun y39 H40 =>
  some (y39, H40))
 (some (y19, H34))))))

theorem f84_main (S : Seam (Value × Heap)) (C : CallF) (n : Nat) (x0 : Value) (x1 : Value) (H : Heap) : acodeK S Tryd.prog C n 30 f84_c (env0 [x0, x1]) H (fin Tryd.prog Tryd.f84) = f84 S C n x0 x1 H := by
  kernel_rfl


theorem f84_eq {E : Ext} (hE : E 84 = none) (n : Nat) (x0 : Value) (x1 : Value) (H : Heap) : acall Tryd.prog true E (n + 1) 84 [x0, x1] H = f84 real (acall Tryd.prog true E n) n x0 x1 H :=
  (acall_eq (N := 30) Tryd.func84 (by kernel_rfl) (by kernel_rfl) hE (by kernel_rfl) (by kernel_rfl)).trans (f84_main real _ n x0 x1 H)

/-! strings.indexFunc -/
noncomputable def f85_c : Code := (Tryd.f85.body).getD .skip

noncomputable def f85_L0 (S : Seam (Value × Heap)) (C : CallF) (n : Nat) : Nat → Value → Value → Value → Heap → Option (Value × Heap)
 | 0, _, _, _, _ => none
 | m + 1, y3, y4, y5, H6 =>
   S.b (nxtS y5 H6) fun y7 H8 =>
   S.b (extr 0 y7 H8) fun y9 H10 =>
   S.i y9
   (S.b (extr 1 y7 H10) fun y11 H12 =>
    S.b (extr 2 y7 H12) fun y13 H14 =>
    S.b (callV C y3 [y13] H14) fun y15 H16 =>
    S.b (up (binB Tryd.prog .eql 4 y15 y4) H16) fun y17 H18 =>
    S.i y17
    (some (y11, H18))
    (f85_L0 S C n m y3 y4 y5 H18))
   (some ((.int .i64 (-1)), H10))

theorem f85_L0_eq (S : Seam (Value × Heap)) (C : CallF) (n : Nat) : ∀ (m : Nat) (env : Env) (H : Heap), aloopK (acodeK S Tryd.prog C n 21 (cAt f85_c [1, 0, 1, 0, 0])) m env H (kAt S Tryd.prog C n 21 f85_c [1, 0, 1, 0] (fin Tryd.prog Tryd.f85)) = f85_L0 S C n m (env 1) (env 2) (env 10) H := by
  intro m env H
  refine aloopK_eq (L := fun m env H => f85_L0 S C n m (env 1) (env 2) (env 10) H) (fun env H => rfl) (fun m env H => ?_) m env H
  kernel_rfl


noncomputable def f85 (S : Seam (Value × Heap)) (C : CallF) (n : Nat) (x0 : Value) (x1 : Value) (x2 : Value) (H : Heap) : Option (Value × Heap) :=
 S.b (rngS x0 H) fun y1 H2 =>
 f85_L0 S C n n x1 x2 y1 H2

noncomputable def f85G (S : Seam (Value × Heap)) (C : CallF) (n : Nat) (P0 : Env → Heap → Option (Value × Heap)) (x0 : Value) (x1 : Value) (x2 : Value) (H : Heap) : Option (Value × Heap) :=
 S.b (rngS x0 H) fun y19 H20 =>
 P0 (putE 21 (putE 21 (putE 21 (env0 [x0, x1, x2]) (some 6) (.int .i64 0)) (some 9) x0) (some 10) y19) H20

theorem f85_main (S : Seam (Value × Heap)) (C : CallF) (n : Nat) (x0 : Value) (x1 : Value) (x2 : Value) (H : Heap) : acodeK S Tryd.prog C n 21 f85_c (env0 [x0, x1, x2]) H (fin Tryd.prog Tryd.f85) = f85 S C n x0 x1 x2 H := by
  have h1 : acodeK S Tryd.prog C n 21 f85_c (env0 [x0, x1, x2]) H (fin Tryd.prog Tryd.f85) = f85G S C n (fun env H => aloopK (acodeK S Tryd.prog C n 21 (cAt f85_c [1, 0, 1, 0, 0])) n env H (kAt S Tryd.prog C n 21 f85_c [1, 0, 1, 0] (fin Tryd.prog Tryd.f85))) x0 x1 x2 H := by kernel_rfl
  have e0 : (fun env H => aloopK (acodeK S Tryd.prog C n 21 (cAt f85_c [1, 0, 1, 0, 0])) n env H (kAt S Tryd.prog C n 21 f85_c [1, 0, 1, 0] (fin Tryd.prog Tryd.f85))) = (fun env H => f85_L0 S C n n (env 1) (env 2) (env 10) H) := by funext env H; exact f85_L0_eq S C n n env H
  rw [e0] at h1
  exact h1.trans (by kernel_rfl)


theorem f85_eq {E : Ext} (hE : E 85 = none) (n : Nat) (x0 : Value) (x1 : Value) (x2 : Value) (H : Heap) : acall Tryd.prog true E (n + 1) 85 [x0, x1, x2] H = f85 real (acall Tryd.prog true E n) n x0 x1 x2 H :=
  (acall_eq (N := 21) Tryd.func85 (by kernel_rfl) (by kernel_rfl) hE (by kernel_rfl) (by kernel_rfl)).trans (f85_main real _ n x0 x1 x2 H)

/-! unicode/utf8.ValidRune -/
noncomputable def f86_c : Code := (Tryd.f86.body).getD .skip

noncomputable def f86 (S : Seam (Value × Heap)) (C : CallF) (n : Nat) (x0 : Value) (H : Heap) : Option (Value × Heap) :=
 S.b (up (binB Tryd.prog .leq 21 (.int .i32 0) x0) H) fun y1 H2 =>
 S.b (gd (wd y1 true) (some (x0, H2)) H2) fun y3 H4 =>
 S.b (gd (wd y1 true) (up (binB Tryd.prog .lss 21 y3 (.int .i32 55296)) H4) H4) fun y5 H6 =>
 S.b (pickV y1 y5 (.bool false) H6) fun y7 H8 =>
 S.i y7
 (some ((.bool true), H8))
 (S.b (up (binB Tryd.prog .lss 21 (.int .i32 57343) x0) H8) fun y9 H10 =>
  S.b (gd (wd y9 true) (some (x0, H10)) H10) fun y11 H12 =>
  S.b (gd (wd y9 true) (up (binB Tryd.prog .leq 21 y11 (.int .i32 1114111)) H12) H12) fun y13 H14 =>
  S.b (pickV y9 y13 (.bool false) H14) fun y15 H16 =>
  S.i y15
  (some ((.bool true), H16))
  (some ((.bool false), H16)))

theorem f86_main (S : Seam (Value × Heap)) (C : CallF) (n : Nat) (x0 : Value) (H : Heap) : acodeK S Tryd.prog C n 17 f86_c (env0 [x0]) H (fin Tryd.prog Tryd.f86) = f86 S C n x0 H := by
  kernel_rfl


theorem f86_eq {E : Ext} (hE : E 86 = none) (n : Nat) (x0 : Value) (H : Heap) : acall Tryd.prog true E (n + 1) 86 [x0] H = f86 real (acall Tryd.prog true E n) n x0 H :=
  (acall_eq (N := 17) Tryd.func86 (by kernel_rfl) (by kernel_rfl) hE (by kernel_rfl) (by kernel_rfl)).trans (f86_main real _ n x0 H)

end Go.Eng
