/- The functions, printed. -/
import Derived.Test.YtiflkdemlhpibaaProg
import Derived.Test.YtiflkdemlhpibaaEnhT
import Derived.KernelRfl
set_option linter.unusedVariables false
set_option maxRecDepth 100000
namespace Go.Eng
open Go Go.Proofs

/-! incunable/incunablelaw16.ImportsOrder -/
noncomputable def f3_c : Code := (Try.f3.body).getD .skip

noncomputable def f3_L0 (S : Seam (Value × Heap)) (C : CallF) (n : Nat) : Nat → Value → Value → Value → Heap → Option (Value × Heap)
 | 0, _, _, _, _ => none
 | m + 1, y41, y42, y43, H44 =>
   S.b (up (lenS y42) H44) fun y45 H46 =>
   S.b (up (binB Try.prog .lss 3 y43 y45) H46) fun y47 H48 =>
   S.i y47
   (S.b (up (iAddrS 2 y42 y43) H48) fun y49 H50 =>
    S.b (up (fAddr 0 y49) H50) fun y51 H52 =>
    S.c true (S.b (ldC y51 H52) fun y53 H54 =>
    S.b (up (iAddrS 2 y41 y43) H54) fun y55 H56 =>
    S.b (up (fAddr 0 y55) H56) fun y57 H58 =>
    S.c true (S.b (ldC y57 H58) fun y59 H60 =>
    S.b (up (binB Try.prog .neq 9 y53 y59) H60) fun y61 H62 =>
    S.i y61
    (some ((.bool false), H62))
    (S.b (up (binB Try.prog .add 3 y43 (.int .i64 1)) H62) fun y63 H64 =>
     f3_L0 S C n m y41 y42 y63 H64))))
   (S.b (C 10 [] H48) fun y65 H66 =>
    some (y65, H66))

theorem f3_L0_eq (S : Seam (Value × Heap)) (C : CallF) (n : Nat) : ∀ (m : Nat) (env : Env) (H : Heap), aloopK (acodeK S Try.prog C n 62 (cAt f3_c [1, 1, 1, 1, 1, 0, 1, 0, 0])) m env H (kAt S Try.prog C n 62 f3_c [1, 1, 1, 1, 1, 0, 1, 0] (fin Try.prog Try.f3)) = f3_L0 S C n m (env 1) (env 5) (env 12) H := by
  intro m env H
  refine aloopK_eq (L := fun m env H => f3_L0 S C n m (env 1) (env 5) (env 12) H) (fun env H => rfl) (fun m env H => ?_) m env H
  kernel_rfl


noncomputable def f3 (S : Seam (Value × Heap)) (C : CallF) (n : Nat) (x0 : Value) (x1 : Value) (H : Heap) : Option (Value × Heap) :=
 S.b (C 5 [x1] H) fun y1 H2 =>
 S.b (C 6 [x0, y1] H2) fun y3 H4 =>
 S.b (extr 0 y3 H4) fun y5 H6 =>
 S.b (extr 1 y3 H6) fun y7 H8 =>
 S.b (extr 2 y3 H8) fun y9 H10 =>
 S.b (C 8 [x1] H10) fun y11 H12 =>
 S.b (C 7 [x0, y11] H12) fun y13 H14 =>
 S.b (extr 0 y13 H14) fun y15 H16 =>
 S.b (extr 1 y13 H16) fun y17 H18 =>
 S.b (extr 2 y13 H18) fun y19 H20 =>
 S.b (C 9 [y5, y15] H20) fun y21 H22 =>
 S.b (up (unB .not y21) H22) fun y23 H24 =>
 S.b (gd (wd y23 false) (some (y7, H24)) H24) fun y25 H26 =>
 S.b (gd (wd y23 false) (some (y17, H26)) H26) fun y27 H28 =>
 S.b (gd (wd y23 false) (up (binB Try.prog .neq 9 y25 y27) H28) H28) fun y29 H30 =>
 S.b (pickV y23 (.bool true) y29 H30) fun y31 H32 =>
 S.b (gd (wd y31 false) (some (y9, H32)) H32) fun y33 H34 =>
 S.b (gd (wd y31 false) (some (y19, H34)) H34) fun y35 H36 =>
 S.b (gd (wd y31 false) (up (binB Try.prog .neq 26 y33 y35) H36) H36) fun y37 H38 =>
 S.b (pickV y31 (.bool true) y37 H38) fun y39 H40 =>
 S.i y39
 (some ((.bool false), H40))
 (f3_L0 S C n n x1 y1 (.int .i64 0) H40)

noncomputable def f3G (S : Seam (Value × Heap)) (C : CallF) (n : Nat) (P0 : Env → Heap → Option (Value × Heap)) (x0 : Value) (x1 : Value) (H : Heap) : Option (Value × Heap) :=
 S.b (C 5 [x1] H) fun y67 H68 =>
 S.b (C 6 [x0, y67] H68) fun y69 H70 =>
 S.b (extr 0 y69 H70) fun y71 H72 =>
 S.b (extr 1 y69 H72) fun y73 H74 =>
 S.b (extr 2 y69 H74) fun y75 H76 =>
 S.b (C 8 [x1] H76) fun y77 H78 =>
 S.b (C 7 [x0, y77] H78) fun y79 H80 =>
 S.b (extr 0 y79 H80) fun y81 H82 =>
 S.b (extr 1 y79 H82) fun y83 H84 =>
 S.b (extr 2 y79 H84) fun y85 H86 =>
 S.b (C 9 [y71, y81] H86) fun y87 H88 =>
 S.b (up (unB .not y87) H88) fun y89 H90 =>
 S.b (gd (wd y89 false) (some (y73, H90)) H90) fun y91 H92 =>
 S.b (gd (wd y89 false) (some (y83, H92)) H92) fun y93 H94 =>
 S.b (gd (wd y89 false) (up (binB Try.prog .neq 9 y91 y93) H94) H94) fun y95 H96 =>
 S.b (pickV y89 (.bool true) y95 H96) fun y97 H98 =>
 S.b (gd (wd y97 false) (some (y75, H98)) H98) fun y99 H100 =>
 S.b (gd (wd y97 false) (some (y85, H100)) H100) fun y101 H102 =>
 S.b (gd (wd y97 false) (up (binB Try.prog .neq 26 y99 y101) H102) H102) fun y103 H104 =>
 S.b (pickV y97 (.bool true) y103 H104) fun y105 H106 =>
 S.i y105
 (some ((.bool false), H106))
 (P0 (putE 62 (putE 62 (putE 62 (putE 62 (putE 62 (putE 62 (putE 62 (putE 62 (putE 62 (putE 62 (putE 62 (putE 62 (putE 62 (putE 62 (putE 62 (putE 62 (putE 62 (putE 62 (putE 62 (putE 62 (putE 62 (putE 62 (putE 62 (putE 62 (putE 62 (putE 62 (putE 62 (putE 62 (putE 62 (putE 62 (putE 62 (putE 62 (putE 62 (putE 62 (putE 62 (putE 62 (putE 62 (putE 62 (putE 62 (putE 62 (env0 [x0, x1]) (some 4) (.bool false)) (some 13) x1) (some 14) y67) (some 5) y67) (some 16) x0) (some 17) y67) (some 18) y69) (some 15) y69) (some 19) y71) (some 20) y73) (some 21) y75) (some 6) y71) (some 7) y73) (some 8) y75) (some 23) x0) (some 24) x1) (some 25) y77) (some 26) y79) (some 22) y79) (some 27) y81) (some 28) y83) (some 29) y85) (some 9) y81) (some 10) y83) (some 11) y85) (some 30) y71) (some 31) y81) (some 32) y87) (some 33) y89) (some 34) y89) (some 35) y91) (some 36) y93) (some 37) y95) (some 38) y97) (some 39) y97) (some 40) y99) (some 41) y101) (some 42) y103) (some 43) y105) (some 12) (.int .i64 0)) H106)

theorem f3_main (S : Seam (Value × Heap)) (C : CallF) (n : Nat) (x0 : Value) (x1 : Value) (H : Heap) : acodeK S Try.prog C n 62 f3_c (env0 [x0, x1]) H (fin Try.prog Try.f3) = f3 S C n x0 x1 H := by
  have h1 : acodeK S Try.prog C n 62 f3_c (env0 [x0, x1]) H (fin Try.prog Try.f3) = f3G S C n (fun env H => aloopK (acodeK S Try.prog C n 62 (cAt f3_c [1, 1, 1, 1, 1, 0, 1, 0, 0])) n env H (kAt S Try.prog C n 62 f3_c [1, 1, 1, 1, 1, 0, 1, 0] (fin Try.prog Try.f3))) x0 x1 H := by kernel_rfl
  have e0 : (fun env H => aloopK (acodeK S Try.prog C n 62 (cAt f3_c [1, 1, 1, 1, 1, 0, 1, 0, 0])) n env H (kAt S Try.prog C n 62 f3_c [1, 1, 1, 1, 1, 0, 1, 0] (fin Try.prog Try.f3))) = (fun env H => f3_L0 S C n n (env 1) (env 5) (env 12) H) := by funext env H; exact f3_L0_eq S C n n env H
  rw [e0] at h1
  exact h1.trans (by kernel_rfl)


theorem f3_eq {gl : Bool} {E : Ext} (hE : E 3 = none) (n : Nat) (x0 : Value) (x1 : Value) (H : Heap) : acall Try.prog gl E (n + 1) 3 [x0, x1] H = f3 real (acall Try.prog gl E n) n x0 x1 H :=
  (acall_eq (N := 62) Try.func3 (by kernel_rfl) (by kernel_rfl) hE (okgl f3_c (by kernel_rfl)) (by kernel_rfl)).trans (f3_main real _ n x0 x1 H)

/-! incunable/incunablelaw16.ImportsReach -/
noncomputable def f4_c : Code := (Try.f4.body).getD .skip

noncomputable def f4 (S : Seam (Value × Heap)) (C : CallF) (n : Nat) (x0 : Value) (x1 : Value) (H : Heap) : Option (Value × Heap) :=
 S.b (C 5 [x1] H) fun y1 H2 =>
 S.b (C 11 [x0, y1] H2) fun y3 H4 =>
 S.b (extr 0 y3 H4) fun y5 H6 =>
 S.b (extr 1 y3 H6) fun y7 H8 =>
 S.b (C 8 [x1] H8) fun y9 H10 =>
 S.b (C 12 [x0, y9] H10) fun y11 H12 =>
 S.b (extr 0 y11 H12) fun y13 H14 =>
 S.b (extr 1 y11 H14) fun y15 H16 =>
 S.b (C 9 [y5, y13] H16) fun y17 H18 =>
 S.b (gd (wd y17 true) (some (y7, H18)) H18) fun y19 H20 =>
 S.b (gd (wd y17 true) (some (y15, H20)) H20) fun y21 H22 =>
 S.b (gd (wd y17 true) (up (binB Try.prog .eql 26 y19 y21) H22) H22) fun y23 H24 =>
 S.b (pickV y17 y23 (.bool false) H24) fun y25 H26 =>
 S.b (gd (wd y25 true) (C 10 [] H26) H26) fun y27 H28 =>
 S.b (pickV y25 y27 (.bool false) H28) fun y29 H30 =>
 some (y29, H30)

theorem f4_main (S : Seam (Value × Heap)) (C : CallF) (n : Nat) (x0 : Value) (x1 : Value) (H : Heap) : acodeK S Try.prog C n 34 f4_c (env0 [x0, x1]) H (fin Try.prog Try.f4) = f4 S C n x0 x1 H := by
  kernel_rfl


theorem f4_eq {gl : Bool} {E : Ext} (hE : E 4 = none) (n : Nat) (x0 : Value) (x1 : Value) (H : Heap) : acall Try.prog gl E (n + 1) 4 [x0, x1] H = f4 real (acall Try.prog gl E n) n x0 x1 H :=
  (acall_eq (N := 34) Try.func4 (by kernel_rfl) (by kernel_rfl) hE (okgl f4_c (by kernel_rfl)) (by kernel_rfl)).trans (f4_main real _ n x0 x1 H)

/-! incunable/incunablelaw16.entries -/
noncomputable def f5_c : Code := (Try.f5.body).getD .skip

noncomputable def f5_L0 (S : Seam (Value × Heap)) (C : CallF) (n : Nat) : Nat → Value → Value → Value → Heap → Option (Value × Heap)
 | 0, _, _, _, _ => none
 | m + 1, y1, y2, y3, H4 =>
   S.b (up (lenS y1) H4) fun y5 H6 =>
   S.b (up (binB Try.prog .lss 3 y3 y5) H6) fun y7 H8 =>
   S.b (gd (wd y7 true) (some (y3, H8)) H8) fun y9 H10 =>
   S.b (gd (wd y7 true) (up (binB Try.prog .lss 3 y9 (.int .i64 60)) H10) H10) fun y11 H12 =>
   S.b (pickV y7 y11 (.bool false) H12) fun y13 H14 =>
   S.i y13
   (S.b (up (iAddrS 2 y1 y3) H14) fun y15 H16 =>
    S.b (up (fAddr 0 y15) H16) fun y17 H18 =>
    S.b (ldC y17 H18) fun y19 H20 =>
    S.b (bld [(.string ⟨#[]⟩), (.slice none 0 0)] [(0, 1, y19)] H20) fun y21 H22 =>
    S.b (newV [(.string ⟨#[]⟩), (.slice none 0 0)] H22) fun y23 H24 =>
    S.b (stV 2 y23 y21 H24) fun _ H25 =>
    S.b (up (fAddr 1 y23) H25) fun y26 H27 =>
    S.c true (S.b (ldC y26 H27) fun y28 H29 =>
    S.b (up (iAddrS 2 y1 y3) H29) fun y30 H31 =>
    S.b (up (fAddr 1 y30) H31) fun y32 H33 =>
    S.c true (S.b (ldC y32 H33) fun y34 H35 =>
    S.b (up (iAddrS 2 y1 y3) H35) fun y36 H37 =>
    S.b (up (fAddr 1 y36) H37) fun y38 H39 =>
    S.c true (S.b (ldC y38 H39) fun y40 H41 =>
    S.b (up (lenS y40) H41) fun y42 H43 =>
    S.b (minV y42 (.int .i64 40) H43) fun y44 H45 =>
    S.b (up (slcS 1 y34 none (some y44) none) H45) fun y46 H47 =>
    S.b (app 1 16 y28 y46 H47) fun y48 H49 =>
    S.c true (S.b (up (fAddr 1 y23) H49) fun y50 H51 =>
     S.b (stV 1 y50 y48 H51) fun _ H52 =>
     S.c true (S.b (ldA 2 y23 H52) fun y53 H54 =>
      S.b (bldS 2 1 [(.string ⟨#[]⟩), (.slice none 0 0)] [(0, 2, y53)] H54) fun y55 H56 =>
      S.b (app 2 40 y2 y55 H56) fun y57 H58 =>
      S.b (up (binB Try.prog .add 3 y3 (.int .i64 1)) H58) fun y59 H60 =>
      f5_L0 S C n m y1 y57 y59 H60))))))
   (some (y2, H14))

theorem f5_L0_eq (S : Seam (Value × Heap)) (C : CallF) (n : Nat) : ∀ (m : Nat) (env : Env) (H : Heap), aloopK (acodeK S Try.prog C n 44 (cAt f5_c [1, 1, 0, 1, 0, 0])) m env H (kAt S Try.prog C n 44 f5_c [1, 1, 0, 1, 0] (fin Try.prog Try.f5)) = f5_L0 S C n m (env 0) (env 3) (env 4) H := by
  intro m env H
  refine aloopK_eq (L := fun m env H => f5_L0 S C n m (env 0) (env 3) (env 4) H) (fun env H => rfl) (fun m env H => ?_) m env H
  kernel_rfl


noncomputable def f5 (S : Seam (Value × Heap)) (C : CallF) (n : Nat) (x0 : Value) (H : Heap) : Option (Value × Heap) :=
 f5_L0 S C n n x0 (.slice none 0 0) (.int .i64 0) H

noncomputable def f5G (S : Seam (Value × Heap)) (C : CallF) (n : Nat) (P0 : Env → Heap → Option (Value × Heap)) (x0 : Value) (H : Heap) : Option (Value × Heap) :=
 P0 (putE 44 (putE 44 (putE 44 (env0 [x0]) (some 2) (.slice none 0 0)) (some 3) (.slice none 0 0)) (some 4) (.int .i64 0)) H

theorem f5_main (S : Seam (Value × Heap)) (C : CallF) (n : Nat) (x0 : Value) (H : Heap) : acodeK S Try.prog C n 44 f5_c (env0 [x0]) H (fin Try.prog Try.f5) = f5 S C n x0 H := by
  have h1 : acodeK S Try.prog C n 44 f5_c (env0 [x0]) H (fin Try.prog Try.f5) = f5G S C n (fun env H => aloopK (acodeK S Try.prog C n 44 (cAt f5_c [1, 1, 0, 1, 0, 0])) n env H (kAt S Try.prog C n 44 f5_c [1, 1, 0, 1, 0] (fin Try.prog Try.f5))) x0 H := by kernel_rfl
  have e0 : (fun env H => aloopK (acodeK S Try.prog C n 44 (cAt f5_c [1, 1, 0, 1, 0, 0])) n env H (kAt S Try.prog C n 44 f5_c [1, 1, 0, 1, 0] (fin Try.prog Try.f5))) = (fun env H => f5_L0 S C n n (env 0) (env 3) (env 4) H) := by funext env H; exact f5_L0_eq S C n n env H
  rw [e0] at h1
  exact h1.trans (by kernel_rfl)


theorem f5_eq {gl : Bool} {E : Ext} (hE : E 5 = none) (n : Nat) (x0 : Value) (H : Heap) : acall Try.prog gl E (n + 1) 5 [x0] H = f5 real (acall Try.prog gl E n) n x0 H :=
  (acall_eq (N := 44) Try.func5 (by kernel_rfl) (by kernel_rfl) hE (okgl f5_c (by kernel_rfl)) (by kernel_rfl)).trans (f5_main real _ n x0 H)

/-! incunable/imports.Order -/
noncomputable def f6_c : Code := (Try.f6.body).getD .skip

noncomputable def f6 (S : Seam (Value × Heap)) (C : CallF) (n : Nat) (x0 : Value) (x1 : Value) (H : Heap) : Option (Value × Heap) :=
 S.b (C 13 [x1] H) fun y1 H2 =>
 S.b (extr 0 y1 H2) fun y3 H4 =>
 S.b (extr 1 y1 H4) fun y5 H6 =>
 S.b (up (binB Try.prog .neq 26 y5 (.int .i64 0)) H6) fun y7 H8 =>
 S.i y7
 (some (.tuple #[(.slice none 0 0), (.string ⟨#[]⟩), y5], H8))
 (S.b (nilC y3 H8) fun y9 H10 =>
  S.b (up (fAddr 1 y9) H10) fun y11 H12 =>
  S.b (ldC y11 H12) fun y13 H14 =>
  S.b ((if keyB .string x0 then lkM .string (.int .i64 0) true y13 x0 H14 else none)) fun y15 H16 =>
  S.b (extr 0 y15 H16) fun y17 H18 =>
  S.b (extr 1 y15 H18) fun y19 H20 =>
  S.b (up (unB .not y19) H20) fun y21 H22 =>
  S.i y21
  (some (.tuple #[(.slice none 0 0), x0, (.int .i64 160)], H22))
  (S.b (C 14 [y3, y17] H22) fun y23 H24 =>
   S.b (up (binB Try.prog .neq 26 y23 (.int .i64 0)) H24) fun y25 H26 =>
   S.i y25
   (S.b (nilC y3 H26) fun y27 H28 =>
    S.b (up (fAddr 5 y27) H28) fun y29 H30 =>
    S.c true (S.b (ldC y29 H30) fun y31 H32 =>
    some (.tuple #[(.slice none 0 0), y31, y23], H32)))
   (S.b (nilC y3 H26) fun y33 H34 =>
    S.b (up (fAddr 4 y33) H34) fun y35 H36 =>
    S.b (ldC y35 H36) fun y37 H38 =>
    some (.tuple #[y37, (.string ⟨#[]⟩), (.int .i64 0)], H38))))

theorem f6_main (S : Seam (Value × Heap)) (C : CallF) (n : Nat) (x0 : Value) (x1 : Value) (H : Heap) : acodeK S Try.prog C n 46 f6_c (env0 [x0, x1]) H (fin Try.prog Try.f6) = f6 S C n x0 x1 H := by
  kernel_rfl


theorem f6_eq {gl : Bool} {E : Ext} (hE : E 6 = none) (n : Nat) (x0 : Value) (x1 : Value) (H : Heap) : acall Try.prog gl E (n + 1) 6 [x0, x1] H = f6 real (acall Try.prog gl E n) n x0 x1 H :=
  (acall_eq (N := 46) Try.func6 (by kernel_rfl) (by kernel_rfl) hE (okgl f6_c (by kernel_rfl)) (by kernel_rfl)).trans (f6_main real _ n x0 x1 H)

/-! incunable/incunableref16.Order -/
noncomputable def f7_c : Code := (Try.f7.body).getD .skip

noncomputable def f7 (S : Seam (Value × Heap)) (C : CallF) (n : Nat) (x0 : Value) (x1 : Value) (H : Heap) : Option (Value × Heap) :=
 S.b (C 15 [x1] H) fun y1 H2 =>
 S.b (up (binB Try.prog .neq 26 y1 (.int .i64 0)) H2) fun y3 H4 =>
 S.i y3
 (some (.tuple #[(.slice none 0 0), (.string ⟨#[]⟩), y1], H4))
 (S.b (C 16 [x1, x0] H4) fun y5 H6 =>
  S.b (up (binB Try.prog .lss 3 y5 (.int .i64 0)) H6) fun y7 H8 =>
  S.i y7
  (some (.tuple #[(.slice none 0 0), x0, (.int .i64 160)], H8))
  (S.b (up (lenS x1) H8) fun y9 H10 =>
   S.b (mkS 1 1 [(.bool false)] y9 y9 H10) fun y11 H12 =>
   S.b (up (lenS x1) H12) fun y13 H14 =>
   S.b (mkS 1 1 [(.bool false)] y13 y13 H14) fun y15 H16 =>
   S.b (bld [(.slice none 0 0), (.slice none 0 0), (.slice none 0 0), (.int .i64 0), (.slice none 0 0), (.string ⟨#[]⟩), (.int .i64 0)] [(0, 1, x1), (1, 1, y11), (2, 1, y15)] H16) fun y17 H18 =>
   S.b (newV (Value.cells y17).toList H18) fun y19 H20 =>
   S.b (C 17 [y19, y5] H20) fun y21 H22 =>
   S.b (nilC y19 H22) fun y23 H24 =>
   S.b (up (fAddr 6 y23) H24) fun y25 H26 =>
   S.b (ldC y25 H26) fun y27 H28 =>
   S.b (up (binB Try.prog .neq 26 y27 (.int .i64 0)) H28) fun y29 H30 =>
   S.i y29
   (S.b (nilC y19 H30) fun y31 H32 =>
    S.b (up (fAddr 5 y31) H32) fun y33 H34 =>
    S.c true (S.b (ldC y33 H34) fun y35 H36 =>
    S.b (nilC y19 H36) fun y37 H38 =>
    S.b (up (fAddr 6 y37) H38) fun y39 H40 =>
    S.c true (S.b (ldC y39 H40) fun y41 H42 =>
    some (.tuple #[(.slice none 0 0), y35, y41], H42))))
   (S.b (nilC y19 H30) fun y43 H44 =>
    S.b (up (fAddr 4 y43) H44) fun y45 H46 =>
    S.b (ldC y45 H46) fun y47 H48 =>
    some (.tuple #[y47, (.string ⟨#[]⟩), (.int .i64 0)], H48))))

theorem f7_main (S : Seam (Value × Heap)) (C : CallF) (n : Nat) (x0 : Value) (x1 : Value) (H : Heap) : acodeK S Try.prog C n 50 f7_c (env0 [x0, x1]) H (fin Try.prog Try.f7) = f7 S C n x0 x1 H := by
  kernel_rfl


theorem f7_eq {gl : Bool} {E : Ext} (hE : E 7 = none) (n : Nat) (x0 : Value) (x1 : Value) (H : Heap) : acall Try.prog gl E (n + 1) 7 [x0, x1] H = f7 real (acall Try.prog gl E n) n x0 x1 H :=
  (acall_eq (N := 50) Try.func7 (by kernel_rfl) (by kernel_rfl) hE (okgl f7_c (by kernel_rfl)) (by kernel_rfl)).trans (f7_main real _ n x0 x1 H)

/-! incunable/incunablelaw16.cut -/
noncomputable def f8_c : Code := (Try.f8.body).getD .skip

noncomputable def f8_L0 (S : Seam (Value × Heap)) (C : CallF) (n : Nat) : Nat → Value → Value → Value → Heap → Option (Value × Heap)
 | 0, _, _, _, _ => none
 | m + 1, y1, y2, y3, H4 =>
   S.b (up (lenS y1) H4) fun y5 H6 =>
   S.b (up (binB Try.prog .lss 3 y3 y5) H6) fun y7 H8 =>
   S.b (gd (wd y7 true) (some (y3, H8)) H8) fun y9 H10 =>
   S.b (gd (wd y7 true) (up (binB Try.prog .lss 3 y9 (.int .i64 60)) H10) H10) fun y11 H12 =>
   S.b (pickV y7 y11 (.bool false) H12) fun y13 H14 =>
   S.i y13
   (S.b (up (iAddrS 2 y1 y3) H14) fun y15 H16 =>
    S.b (up (fAddr 0 y15) H16) fun y17 H18 =>
    S.b (ldC y17 H18) fun y19 H20 =>
    S.b (bld [(.string ⟨#[]⟩), (.slice none 0 0)] [(0, 1, y19)] H20) fun y21 H22 =>
    S.b (newV [(.string ⟨#[]⟩), (.slice none 0 0)] H22) fun y23 H24 =>
    S.b (stV 2 y23 y21 H24) fun _ H25 =>
    S.b (up (fAddr 1 y23) H25) fun y26 H27 =>
    S.c true (S.b (ldC y26 H27) fun y28 H29 =>
    S.b (up (iAddrS 2 y1 y3) H29) fun y30 H31 =>
    S.b (up (fAddr 1 y30) H31) fun y32 H33 =>
    S.c true (S.b (ldC y32 H33) fun y34 H35 =>
    S.b (up (iAddrS 2 y1 y3) H35) fun y36 H37 =>
    S.b (up (fAddr 1 y36) H37) fun y38 H39 =>
    S.c true (S.b (ldC y38 H39) fun y40 H41 =>
    S.b (up (lenS y40) H41) fun y42 H43 =>
    S.b (minV y42 (.int .i64 40) H43) fun y44 H45 =>
    S.b (up (slcS 1 y34 none (some y44) none) H45) fun y46 H47 =>
    S.b (app 1 16 y28 y46 H47) fun y48 H49 =>
    S.c true (S.b (up (fAddr 1 y23) H49) fun y50 H51 =>
     S.b (stV 1 y50 y48 H51) fun _ H52 =>
     S.c true (S.b (ldA 2 y23 H52) fun y53 H54 =>
      S.b (bldS 2 1 [(.string ⟨#[]⟩), (.slice none 0 0)] [(0, 2, y53)] H54) fun y55 H56 =>
      S.b (app 2 40 y2 y55 H56) fun y57 H58 =>
      S.b (up (binB Try.prog .add 3 y3 (.int .i64 1)) H58) fun y59 H60 =>
      f8_L0 S C n m y1 y57 y59 H60))))))
   (some (y2, H14))

theorem f8_L0_eq (S : Seam (Value × Heap)) (C : CallF) (n : Nat) : ∀ (m : Nat) (env : Env) (H : Heap), aloopK (acodeK S Try.prog C n 44 (cAt f8_c [1, 1, 0, 1, 0, 0])) m env H (kAt S Try.prog C n 44 f8_c [1, 1, 0, 1, 0] (fin Try.prog Try.f8)) = f8_L0 S C n m (env 0) (env 3) (env 4) H := by
  intro m env H
  refine aloopK_eq (L := fun m env H => f8_L0 S C n m (env 0) (env 3) (env 4) H) (fun env H => rfl) (fun m env H => ?_) m env H
  kernel_rfl


noncomputable def f8 (S : Seam (Value × Heap)) (C : CallF) (n : Nat) (x0 : Value) (H : Heap) : Option (Value × Heap) :=
 f8_L0 S C n n x0 (.slice none 0 0) (.int .i64 0) H

noncomputable def f8G (S : Seam (Value × Heap)) (C : CallF) (n : Nat) (P0 : Env → Heap → Option (Value × Heap)) (x0 : Value) (H : Heap) : Option (Value × Heap) :=
 P0 (putE 44 (putE 44 (putE 44 (env0 [x0]) (some 2) (.slice none 0 0)) (some 3) (.slice none 0 0)) (some 4) (.int .i64 0)) H

theorem f8_main (S : Seam (Value × Heap)) (C : CallF) (n : Nat) (x0 : Value) (H : Heap) : acodeK S Try.prog C n 44 f8_c (env0 [x0]) H (fin Try.prog Try.f8) = f8 S C n x0 H := by
  have h1 : acodeK S Try.prog C n 44 f8_c (env0 [x0]) H (fin Try.prog Try.f8) = f8G S C n (fun env H => aloopK (acodeK S Try.prog C n 44 (cAt f8_c [1, 1, 0, 1, 0, 0])) n env H (kAt S Try.prog C n 44 f8_c [1, 1, 0, 1, 0] (fin Try.prog Try.f8))) x0 H := by kernel_rfl
  have e0 : (fun env H => aloopK (acodeK S Try.prog C n 44 (cAt f8_c [1, 1, 0, 1, 0, 0])) n env H (kAt S Try.prog C n 44 f8_c [1, 1, 0, 1, 0] (fin Try.prog Try.f8))) = (fun env H => f8_L0 S C n n (env 0) (env 3) (env 4) H) := by funext env H; exact f8_L0_eq S C n n env H
  rw [e0] at h1
  exact h1.trans (by kernel_rfl)


theorem f8_eq {gl : Bool} {E : Ext} (hE : E 8 = none) (n : Nat) (x0 : Value) (H : Heap) : acall Try.prog gl E (n + 1) 8 [x0] H = f8 real (acall Try.prog gl E n) n x0 H :=
  (acall_eq (N := 44) Try.func8 (by kernel_rfl) (by kernel_rfl) hE (okgl f8_c (by kernel_rfl)) (by kernel_rfl)).trans (f8_main real _ n x0 H)

/-! incunable/incunableref00.EqInts -/
noncomputable def f9_c : Code := (Try.f9.body).getD .skip

noncomputable def f9_L0 (S : Seam (Value × Heap)) (C : CallF) (n : Nat) : Nat → Value → Value → Value → Heap → Option (Value × Heap)
 | 0, _, _, _, _ => none
 | m + 1, y7, y8, y9, H10 =>
   S.b (up (lenS y7) H10) fun y11 H12 =>
   S.b (up (binB Try.prog .lss 3 y9 y11) H12) fun y13 H14 =>
   S.i y13
   (S.b (up (iAddrS 1 y7 y9) H14) fun y15 H16 =>
    S.c true (S.b (ldC y15 H16) fun y17 H18 =>
    S.b (up (iAddrS 1 y8 y9) H18) fun y19 H20 =>
    S.c true (S.b (ldC y19 H20) fun y21 H22 =>
    S.b (up (binB Try.prog .neq 3 y17 y21) H22) fun y23 H24 =>
    S.i y23
    (some ((.bool false), H24))
    (S.b (up (binB Try.prog .add 3 y9 (.int .i64 1)) H24) fun y25 H26 =>
     f9_L0 S C n m y7 y8 y25 H26))))
   (some ((.bool true), H14))

theorem f9_L0_eq (S : Seam (Value × Heap)) (C : CallF) (n : Nat) : ∀ (m : Nat) (env : Env) (H : Heap), aloopK (acodeK S Try.prog C n 26 (cAt f9_c [1, 1, 0, 1, 0, 0])) m env H (kAt S Try.prog C n 26 f9_c [1, 1, 0, 1, 0] (fin Try.prog Try.f9)) = f9_L0 S C n m (env 0) (env 1) (env 5) H := by
  intro m env H
  refine aloopK_eq (L := fun m env H => f9_L0 S C n m (env 0) (env 1) (env 5) H) (fun env H => rfl) (fun m env H => ?_) m env H
  kernel_rfl


noncomputable def f9 (S : Seam (Value × Heap)) (C : CallF) (n : Nat) (x0 : Value) (x1 : Value) (H : Heap) : Option (Value × Heap) :=
 S.b (up (lenS x0) H) fun y1 H2 =>
 S.b (up (lenS x1) H2) fun y3 H4 =>
 S.b (up (binB Try.prog .neq 3 y1 y3) H4) fun y5 H6 =>
 S.i y5
 (some ((.bool false), H6))
 (f9_L0 S C n n x0 x1 (.int .i64 0) H6)

noncomputable def f9G (S : Seam (Value × Heap)) (C : CallF) (n : Nat) (P0 : Env → Heap → Option (Value × Heap)) (x0 : Value) (x1 : Value) (H : Heap) : Option (Value × Heap) :=
 S.b (up (lenS x0) H) fun y27 H28 =>
 S.b (up (lenS x1) H28) fun y29 H30 =>
 S.b (up (binB Try.prog .neq 3 y27 y29) H30) fun y31 H32 =>
 S.i y31
 (some ((.bool false), H32))
 (P0 (putE 26 (putE 26 (putE 26 (putE 26 (putE 26 (putE 26 (putE 26 (env0 [x0, x1]) (some 4) (.bool false)) (some 6) x0) (some 7) y27) (some 8) x1) (some 9) y29) (some 10) y31) (some 5) (.int .i64 0)) H32)

theorem f9_main (S : Seam (Value × Heap)) (C : CallF) (n : Nat) (x0 : Value) (x1 : Value) (H : Heap) : acodeK S Try.prog C n 26 f9_c (env0 [x0, x1]) H (fin Try.prog Try.f9) = f9 S C n x0 x1 H := by
  have h1 : acodeK S Try.prog C n 26 f9_c (env0 [x0, x1]) H (fin Try.prog Try.f9) = f9G S C n (fun env H => aloopK (acodeK S Try.prog C n 26 (cAt f9_c [1, 1, 0, 1, 0, 0])) n env H (kAt S Try.prog C n 26 f9_c [1, 1, 0, 1, 0] (fin Try.prog Try.f9))) x0 x1 H := by kernel_rfl
  have e0 : (fun env H => aloopK (acodeK S Try.prog C n 26 (cAt f9_c [1, 1, 0, 1, 0, 0])) n env H (kAt S Try.prog C n 26 f9_c [1, 1, 0, 1, 0] (fin Try.prog Try.f9))) = (fun env H => f9_L0 S C n n (env 0) (env 1) (env 5) H) := by funext env H; exact f9_L0_eq S C n n env H
  rw [e0] at h1
  exact h1.trans (by kernel_rfl)


theorem f9_eq {gl : Bool} {E : Ext} (hE : E 9 = none) (n : Nat) (x0 : Value) (x1 : Value) (H : Heap) : acall Try.prog gl E (n + 1) 9 [x0, x1] H = f9 real (acall Try.prog gl E n) n x0 x1 H :=
  (acall_eq (N := 26) Try.func9 (by kernel_rfl) (by kernel_rfl) hE (okgl f9_c (by kernel_rfl)) (by kernel_rfl)).trans (f9_main real _ n x0 x1 H)

/-! incunable/incunablelaw16.awake -/
noncomputable def f10_c : Code := (Try.f10.body).getD .skip

noncomputable def f10 (S : Seam (Value × Heap)) (C : CallF) (n : Nat) (H : Heap) : Option (Value × Heap) :=
 S.b (C 18 [] H) fun y1 H2 =>
 S.b (C 6 [(.string ⟨#[97]⟩), y1] H2) fun y3 H4 =>
 S.b (extr 0 y3 H4) fun y5 H6 =>
 S.b (extr 1 y3 H6) fun y7 H8 =>
 S.b (extr 2 y3 H8) fun y9 H10 =>
 S.b (C 18 [] H10) fun y11 H12 =>
 S.b (C 11 [(.string ⟨#[97]⟩), y11] H12) fun y13 H14 =>
 S.b (extr 0 y13 H14) fun y15 H16 =>
 S.b (extr 1 y13 H16) fun y17 H18 =>
 S.b (C 18 [] H18) fun y19 H20 =>
 S.b (C 11 [(.string ⟨#[102]⟩), y19] H20) fun y21 H22 =>
 S.b (extr 0 y21 H22) fun y23 H24 =>
 S.b (extr 1 y21 H24) fun y25 H26 =>
 S.b (bldS 1 4 [(.int .i64 0)] [(0, 1, (.int .i64 3)), (1, 1, (.int .i64 1)), (2, 1, (.int .i64 2)), (3, 1, (.int .i64 0))] H26) fun y27 H28 =>
 S.b (C 9 [y5, y27] H28) fun y29 H30 =>
 S.b (gd (wd y29 true) (some (y7, H30)) H30) fun y31 H32 =>
 S.b (gd (wd y29 true) (up (binB Try.prog .eql 9 y31 (.string ⟨#[]⟩)) H32) H32) fun y33 H34 =>
 S.b (pickV y29 y33 (.bool false) H34) fun y35 H36 =>
 S.b (gd (wd y35 true) (some (y9, H36)) H36) fun y37 H38 =>
 S.b (gd (wd y35 true) (up (binB Try.prog .eql 26 y37 (.int .i64 0)) H38) H38) fun y39 H40 =>
 S.b (pickV y35 y39 (.bool false) H40) fun y41 H42 =>
 S.b (gd (wd y41 true) (C 19 [(.string ⟨#[101]⟩), (.string ⟨#[101]⟩), (.int .i64 161)] H42) H42) fun y43 H44 =>
 S.b (pickV y41 y43 (.bool false) H44) fun y45 H46 =>
 S.b (gd (wd y45 true) (C 19 [(.string ⟨#[102]⟩), (.string ⟨#[120]⟩), (.int .i64 160)] H46) H46) fun y47 H48 =>
 S.b (pickV y45 y47 (.bool false) H48) fun y49 H50 =>
 S.b (gd (wd y49 true) (C 19 [(.string ⟨#[121]⟩), (.string ⟨#[121]⟩), (.int .i64 160)] H50) H50) fun y51 H52 =>
 S.b (pickV y49 y51 (.bool false) H52) fun y53 H54 =>
 S.b (gd (wd y53 true) (some (y15, H54)) H54) fun y55 H56 =>
 S.b (gd (wd y53 true) (bldS 1 4 [(.int .i64 0)] [(0, 1, (.int .i64 0)), (1, 1, (.int .i64 1)), (2, 1, (.int .i64 2)), (3, 1, (.int .i64 3))] H56) H56) fun y57 H58 =>
 S.b (gd (wd y53 true) (C 9 [y55, y57] H58) H58) fun y59 H60 =>
 S.b (pickV y53 y59 (.bool false) H60) fun y61 H62 =>
 S.b (gd (wd y61 true) (some (y17, H62)) H62) fun y63 H64 =>
 S.b (gd (wd y61 true) (up (binB Try.prog .eql 26 y63 (.int .i64 0)) H64) H64) fun y65 H66 =>
 S.b (pickV y61 y65 (.bool false) H66) fun y67 H68 =>
 S.b (gd (wd y67 true) (some (y23, H68)) H68) fun y69 H70 =>
 S.b (gd (wd y67 true) (bldS 1 1 [(.int .i64 0)] [(0, 1, (.int .i64 5))] H70) H70) fun y71 H72 =>
 S.b (gd (wd y67 true) (C 9 [y69, y71] H72) H72) fun y73 H74 =>
 S.b (pickV y67 y73 (.bool false) H74) fun y75 H76 =>
 S.b (gd (wd y75 true) (some (y25, H76)) H76) fun y77 H78 =>
 S.b (gd (wd y75 true) (up (binB Try.prog .eql 26 y77 (.int .i64 0)) H78) H78) fun y79 H80 =>
 S.b (pickV y75 y79 (.bool false) H80) fun y81 H82 =>
 some (y81, H82)

theorem f10_main (S : Seam (Value × Heap)) (C : CallF) (n : Nat) (H : Heap) : acodeK S Try.prog C n 62 f10_c (env0 []) H (fin Try.prog Try.f10) = f10 S C n H := by
  kernel_rfl


theorem f10_eq {gl : Bool} {E : Ext} (hE : E 10 = none) (n : Nat) (H : Heap) : acall Try.prog gl E (n + 1) 10 [] H = f10 real (acall Try.prog gl E n) n H :=
  (acall_eq (N := 62) Try.func10 (by kernel_rfl) (by kernel_rfl) hE (okgl f10_c (by kernel_rfl)) (by kernel_rfl)).trans (f10_main real _ n H)

/-! incunable/imports.Reach -/
noncomputable def f11_c : Code := (Try.f11.body).getD .skip

noncomputable def f11_J1 (S : Seam (Value × Heap)) (C : CallF) (n : Nat) (R0 : Value→Value→Value→Value→Heap→Option (Value × Heap)) (y80 y81 y82 y83 : Value) (H84 : Heap) : Option (Value × Heap) :=
 S.b (up (slcS 1 y83 (some (.int .i64 1)) none none) H84) fun y85 H86 =>
 R0 y80 y81 y82 y85 H86

noncomputable def f11_L0 (S : Seam (Value × Heap)) (C : CallF) (n : Nat) : Nat → Value → Value → Value → Value → Heap → Option (Value × Heap)
 | 0, _, _, _, _, _ => none
 | m + 1, y11, y12, y13, y14, H15 =>
   S.b (up (lenS y14) H15) fun y16 H17 =>
   S.b (up (binB Try.prog .gtr 3 y16 (.int .i64 0)) H17) fun y18 H19 =>
   S.i y18
   (S.b (nilC y12 H19) fun y20 H21 =>
    S.b (up (fAddr 1 y20) H21) fun y22 H23 =>
    S.c true (S.b (ldC y22 H23) fun y24 H25 =>
    S.b (up (iAddrS 1 y14 (.int .i64 0)) H25) fun y26 H27 =>
    S.c true (S.b (ldC y26 H27) fun y28 H29 =>
    S.b ((if keyB .string y28 then lkM .string (.int .i64 0) true y24 y28 H29 else none)) fun y30 H31 =>
    S.c true (S.b (extr 0 y30 H31) fun y32 H33 =>
     S.b (extr 1 y30 H33) fun y34 H35 =>
     S.b (gd (wd y34 true) (some (y12, H35)) H35) fun y36 H37 =>
     S.b (gd (wd y34 true) (nilC y36 H37) H37) fun y38 H39 =>
     S.b (gd (wd y34 true) (up (fAddr 2 y38) H39) H39) fun y40 H41 =>
     S.b (gd (wd y34 true) (ldC y40 H41) H41) fun y42 H43 =>
     S.b (gd (wd y34 true) (some (y32, H43)) H43) fun y44 H45 =>
     S.b (gd (wd y34 true) (up (iAddrS 1 y42 y44) H45) H45) fun y46 H47 =>
     S.b (gd (wd y34 true) (ldC y46 H47) H47) fun y48 H49 =>
     S.b (gd (wd y34 true) (up (binB Try.prog .eql 3 y48 (.int .i64 0)) H49) H49) fun y50 H51 =>
     S.b (pickV y34 y50 (.bool false) H51) fun y52 H53 =>
     S.i y52
     (S.b (nilC y12 H53) fun y54 H55 =>
      S.b (up (fAddr 2 y54) H55) fun y56 H57 =>
      S.b (ldC y56 H57) fun y58 H59 =>
      S.b (up (iAddrS 1 y58 y32) H59) fun y60 H61 =>
      S.b (stV 1 y60 (.int .i64 2) H61) fun _ H62 =>
      S.b (bldS 1 1 [(.int .i64 0)] [(0, 1, y32)] H62) fun y63 H64 =>
      S.b (app 1 8 y13 y63 H64) fun y65 H66 =>
      S.c true (S.b (up (iAddrS 2 y11 y32) H66) fun y67 H68 =>
       S.b (up (fAddr 1 y67) H68) fun y69 H70 =>
       S.c ((sameBlk H64 H66 (blkOf y69)) && true) (S.b (ldC y69 H70) fun y71 H72 =>
       S.b (app 1 16 y14 y71 H72) fun y73 H74 =>
       S.c true (f11_J1 S C n (f11_L0 S C n m) y11 y12 y65 y73 H74))))
     (f11_J1 S C n (f11_L0 S C n m) y11 y12 y13 y14 H53)))))
   (S.b (C 20 [y13] H19) fun y87 H88 =>
    some (.tuple #[y13, (.int .i64 0)], H88))

theorem f11_L0_eq (S : Seam (Value × Heap)) (C : CallF) (n : Nat) : ∀ (m : Nat) (env : Env) (H : Heap), aloopK (acodeK S Try.prog C n 69 (cAt f11_c [1, 1, 1, 1, 0, 1, 0, 0])) m env H (kAt S Try.prog C n 69 f11_c [1, 1, 1, 1, 0, 1, 0] (fin Try.prog Try.f11)) = f11_L0 S C n m (env 1) (env 6) (env 8) (env 9) H := by
  intro m env H
  refine aloopK_eq (L := fun m env H => f11_L0 S C n m (env 1) (env 6) (env 8) (env 9) H) (fun env H => rfl) (fun m env H => ?_) m env H
  kernel_rfl


noncomputable def f11 (S : Seam (Value × Heap)) (C : CallF) (n : Nat) (x0 : Value) (x1 : Value) (H : Heap) : Option (Value × Heap) :=
 S.b (C 13 [x1] H) fun y1 H2 =>
 S.b (extr 0 y1 H2) fun y3 H4 =>
 S.b (extr 1 y1 H4) fun y5 H6 =>
 S.b (up (binB Try.prog .neq 26 y5 (.int .i64 0)) H6) fun y7 H8 =>
 S.i y7
 (some (.tuple #[(.slice none 0 0), y5], H8))
 (S.b (bldS 1 1 [(.string ⟨#[]⟩)] [(0, 1, x0)] H8) fun y9 H10 =>
  f11_L0 S C n n x1 y3 (.slice none 0 0) y9 H10)

noncomputable def f11G (S : Seam (Value × Heap)) (C : CallF) (n : Nat) (P0 : Env → Heap → Option (Value × Heap)) (x0 : Value) (x1 : Value) (H : Heap) : Option (Value × Heap) :=
 S.b (C 13 [x1] H) fun y89 H90 =>
 S.b (extr 0 y89 H90) fun y91 H92 =>
 S.b (extr 1 y89 H92) fun y93 H94 =>
 S.b (up (binB Try.prog .neq 26 y93 (.int .i64 0)) H94) fun y95 H96 =>
 S.i y95
 (some (.tuple #[(.slice none 0 0), y93], H96))
 (S.b (bldS 1 1 [(.string ⟨#[]⟩)] [(0, 1, x0)] H96) fun y97 H98 =>
  P0 (putE 69 (putE 69 (putE 69 (putE 69 (putE 69 (putE 69 (putE 69 (putE 69 (putE 69 (putE 69 (putE 69 (putE 69 (putE 69 (putE 69 (putE 69 (env0 [x0, x1]) (some 4) (.slice none 0 0)) (some 5) (.int .i64 0)) (some 13) x1) (some 14) y89) (some 12) y89) (some 15) y91) (some 16) y93) (some 6) y91) (some 7) y93) (some 17) y93) (some 18) y95) (some 8) (.slice none 0 0)) (some 20) x0) (some 21) y97) (some 9) y97) H98)

theorem f11_main (S : Seam (Value × Heap)) (C : CallF) (n : Nat) (x0 : Value) (x1 : Value) (H : Heap) : acodeK S Try.prog C n 69 f11_c (env0 [x0, x1]) H (fin Try.prog Try.f11) = f11 S C n x0 x1 H := by
  have h1 : acodeK S Try.prog C n 69 f11_c (env0 [x0, x1]) H (fin Try.prog Try.f11) = f11G S C n (fun env H => aloopK (acodeK S Try.prog C n 69 (cAt f11_c [1, 1, 1, 1, 0, 1, 0, 0])) n env H (kAt S Try.prog C n 69 f11_c [1, 1, 1, 1, 0, 1, 0] (fin Try.prog Try.f11))) x0 x1 H := by kernel_rfl
  have e0 : (fun env H => aloopK (acodeK S Try.prog C n 69 (cAt f11_c [1, 1, 1, 1, 0, 1, 0, 0])) n env H (kAt S Try.prog C n 69 f11_c [1, 1, 1, 1, 0, 1, 0] (fin Try.prog Try.f11))) = (fun env H => f11_L0 S C n n (env 1) (env 6) (env 8) (env 9) H) := by funext env H; exact f11_L0_eq S C n n env H
  rw [e0] at h1
  exact h1.trans (by kernel_rfl)


theorem f11_eq {gl : Bool} {E : Ext} (hE : E 11 = none) (n : Nat) (x0 : Value) (x1 : Value) (H : Heap) : acall Try.prog gl E (n + 1) 11 [x0, x1] H = f11 real (acall Try.prog gl E n) n x0 x1 H :=
  (acall_eq (N := 69) Try.func11 (by kernel_rfl) (by kernel_rfl) hE (okgl f11_c (by kernel_rfl)) (by kernel_rfl)).trans (f11_main real _ n x0 x1 H)

/-! incunable/incunableref16.Reach -/
noncomputable def f12_c : Code := (Try.f12.body).getD .skip

noncomputable def f12_J1 (S : Seam (Value × Heap)) (C : CallF) (n : Nat) (R0 : Value→Value→Value→Heap→Option (Value × Heap)) (R1 : Value→Value→Value→Value→Heap→Option (Value × Heap)) (R2 : Value→Value→Value→Value→Value→Heap→Option (Value × Heap)) (y85 y86 y87 y88 y89 : Value) (H90 : Heap) : Option (Value × Heap) :=
 S.b (up (binB Try.prog .add 3 y89 (.int .i64 1)) H90) fun y91 H92 =>
 R2 y85 y86 y87 y88 y91 H92

noncomputable def f12_L2 (S : Seam (Value × Heap)) (C : CallF) (n : Nat) (R0 : Value→Value→Value→Heap→Option (Value × Heap)) (R1 : Value→Value→Value→Value→Heap→Option (Value × Heap)) : Nat → Value → Value → Value → Value → Value → Heap → Option (Value × Heap)
 | 0, _, _, _, _, _, _ => none
 | m + 1, y36, y37, y38, y39, y40, H41 =>
   S.b (up (iAddrS 2 y36 y39) H41) fun y42 H43 =>
   S.b (up (fAddr 1 y42) H43) fun y44 H45 =>
   S.b (ldC y44 H45) fun y46 H47 =>
   S.b (up (lenS y46) H47) fun y48 H49 =>
   S.b (up (binB Try.prog .lss 3 y40 y48) H49) fun y50 H51 =>
   S.b (gd (wd y50 true) (some (y37, H51)) H51) fun y52 H53 =>
   S.b (gd (wd y50 true) (some (y39, H53)) H53) fun y54 H55 =>
   S.b (gd (wd y50 true) (up (iAddrS 1 y52 y54) H55) H55) fun y56 H57 =>
   S.b (gd (wd y50 true) (ldC y56 H57) H57) fun y58 H59 =>
   S.b (pickV y50 y58 (.bool false) H59) fun y60 H61 =>
   S.i y60
   (S.b (up (iAddrS 2 y36 y39) H61) fun y62 H63 =>
    S.b (up (fAddr 1 y62) H63) fun y64 H65 =>
    S.b (ldC y64 H65) fun y66 H67 =>
    S.b (up (iAddrS 1 y66 y40) H67) fun y68 H69 =>
    S.b (ldC y68 H69) fun y70 H71 =>
    S.b (C 16 [y36, y70] H71) fun y72 H73 =>
    S.b (up (binB Try.prog .geq 3 y72 (.int .i64 0)) H73) fun y74 H75 =>
    S.i y74
    (S.b (up (iAddrS 1 y37 y72) H75) fun y76 H77 =>
     S.b (stV 1 y76 (.bool true) H77) fun _ H78 =>
     f12_J1 S C n R0 R1 (f12_L2 S C n R0 R1 m) y36 y37 y38 y39 y40 H78)
    (f12_J1 S C n R0 R1 (f12_L2 S C n R0 R1 m) y36 y37 y38 y39 y40 H75))
   (S.b (up (binB Try.prog .add 3 y39 (.int .i64 1)) H61) fun y93 H94 =>
    R1 y36 y37 y38 y93 H94)

theorem f12_L2_eq (S : Seam (Value × Heap)) (C : CallF) (n : Nat) (R0 : Value→Value→Value→Heap→Option (Value × Heap)) (R1 : Value→Value→Value→Value→Heap→Option (Value × Heap)) : ∀ (m : Nat) (env : Env) (H : Heap), aloopK (acodeK S Try.prog C n 89 (cAt f12_c [1, 1, 1, 1, 1, 1, 0, 1, 0, 0, 1, 0, 0, 1, 0, 0, 1, 0, 0, 1, 0, 0])) m env H (kAt S Try.prog C n 89 (cAt f12_c [1, 1, 1, 1, 1, 1, 0, 1, 0, 0, 1, 0, 0, 1, 0, 0]) [1, 0, 0, 1, 0] (onNormal (fun env' H' => R1 (env' 1) (env' 7) (env' 9) (env' 10) H') (kAt S Try.prog C n 89 (cAt f12_c [1, 1, 1, 1, 1, 1, 0, 1, 0, 0]) [1, 0, 0, 1, 0] (onNormal (fun env' H' => R0 (env' 1) (env' 7) (env' 9) H') (kAt S Try.prog C n 89 f12_c [1, 1, 1, 1, 1, 1, 0, 1, 0] (fin Try.prog Try.f12)))))) = f12_L2 S C n R0 R1 m (env 1) (env 7) (env 9) (env 10) (env 11) H := by
  intro m env H
  refine aloopK_eq (L := fun m env H => f12_L2 S C n R0 R1 m (env 1) (env 7) (env 9) (env 10) (env 11) H) (fun env H => rfl) (fun m env H => ?_) m env H
  kernel_rfl


noncomputable def f12_L1 (S : Seam (Value × Heap)) (C : CallF) (n : Nat) (R0 : Value→Value→Value→Heap→Option (Value × Heap)) : Nat → Value → Value → Value → Value → Heap → Option (Value × Heap)
 | 0, _, _, _, _, _ => none
 | m + 1, y27, y28, y29, y30, H31 =>
   S.b (up (lenS y27) H31) fun y32 H33 =>
   S.b (up (binB Try.prog .lss 3 y30 y32) H33) fun y34 H35 =>
   S.i y34
   (f12_L2 S C n R0 (f12_L1 S C n R0 m) n y27 y28 y29 y30 (.int .i64 0) H35)
   (S.b (up (binB Try.prog .add 3 y29 (.int .i64 1)) H35) fun y95 H96 =>
    R0 y27 y28 y95 H96)

noncomputable def f12_L1G (S : Seam (Value × Heap)) (C : CallF) (n : Nat) (R0 : Value→Value→Value→Heap→Option (Value × Heap)) (R1 : Value→Value→Value→Value→Heap→Option (Value × Heap)) (P2 : Env → Heap → Option (Value × Heap)) (env : Env) (H : Heap) : Option (Value × Heap) :=
 S.b (up (lenS (env 1)) H) fun y97 H98 =>
 S.b (up (binB Try.prog .lss 3 (env 10) y97) H98) fun y99 H100 =>
 S.i y99
 (P2 (putE 89 (putE 89 (putE 89 (putE 89 (putE 89 env (some 37) (env 10)) (some 38) (env 1)) (some 39) y97) (some 40) y99) (some 11) (.int .i64 0)) H100)
 (S.b (up (binB Try.prog .add 3 (env 9) (.int .i64 1)) H100) fun y101 H102 =>
  R0 (env 1) (env 7) y101 H102)

theorem f12_L1_eq (S : Seam (Value × Heap)) (C : CallF) (n : Nat) (R0 : Value→Value→Value→Heap→Option (Value × Heap)) : ∀ (m : Nat) (env : Env) (H : Heap), aloopK (acodeK S Try.prog C n 89 (cAt f12_c [1, 1, 1, 1, 1, 1, 0, 1, 0, 0, 1, 0, 0, 1, 0, 0])) m env H (kAt S Try.prog C n 89 (cAt f12_c [1, 1, 1, 1, 1, 1, 0, 1, 0, 0]) [1, 0, 0, 1, 0] (onNormal (fun env' H' => R0 (env' 1) (env' 7) (env' 9) H') (kAt S Try.prog C n 89 f12_c [1, 1, 1, 1, 1, 1, 0, 1, 0] (fin Try.prog Try.f12)))) = f12_L1 S C n R0 m (env 1) (env 7) (env 9) (env 10) H := by
  intro m env H
  refine aloopK_eq (L := fun m env H => f12_L1 S C n R0 m (env 1) (env 7) (env 9) (env 10) H) (fun env H => rfl) (fun m env H => ?_) m env H
  have h1 : acodeK S Try.prog C n 89 (cAt f12_c [1, 1, 1, 1, 1, 1, 0, 1, 0, 0, 1, 0, 0, 1, 0, 0]) env H (onNormal (fun env' H' => f12_L1 S C n R0 m (env' 1) (env' 7) (env' 9) (env' 10) H') (kAt S Try.prog C n 89 (cAt f12_c [1, 1, 1, 1, 1, 1, 0, 1, 0, 0]) [1, 0, 0, 1, 0] (onNormal (fun env' H' => R0 (env' 1) (env' 7) (env' 9) H') (kAt S Try.prog C n 89 f12_c [1, 1, 1, 1, 1, 1, 0, 1, 0] (fin Try.prog Try.f12))))) = f12_L1G S C n R0 (f12_L1 S C n R0 m) (fun env H => aloopK (acodeK S Try.prog C n 89 (cAt f12_c [1, 1, 1, 1, 1, 1, 0, 1, 0, 0, 1, 0, 0, 1, 0, 0, 1, 0, 0, 1, 0, 0])) n env H (kAt S Try.prog C n 89 (cAt f12_c [1, 1, 1, 1, 1, 1, 0, 1, 0, 0, 1, 0, 0, 1, 0, 0]) [1, 0, 0, 1, 0] (onNormal (fun env' H' => (f12_L1 S C n R0 m) (env' 1) (env' 7) (env' 9) (env' 10) H') (kAt S Try.prog C n 89 (cAt f12_c [1, 1, 1, 1, 1, 1, 0, 1, 0, 0]) [1, 0, 0, 1, 0] (onNormal (fun env' H' => R0 (env' 1) (env' 7) (env' 9) H') (kAt S Try.prog C n 89 f12_c [1, 1, 1, 1, 1, 1, 0, 1, 0] (fin Try.prog Try.f12))))))) env H := by kernel_rfl
  have e0 : (fun env H => aloopK (acodeK S Try.prog C n 89 (cAt f12_c [1, 1, 1, 1, 1, 1, 0, 1, 0, 0, 1, 0, 0, 1, 0, 0, 1, 0, 0, 1, 0, 0])) n env H (kAt S Try.prog C n 89 (cAt f12_c [1, 1, 1, 1, 1, 1, 0, 1, 0, 0, 1, 0, 0, 1, 0, 0]) [1, 0, 0, 1, 0] (onNormal (fun env' H' => (f12_L1 S C n R0 m) (env' 1) (env' 7) (env' 9) (env' 10) H') (kAt S Try.prog C n 89 (cAt f12_c [1, 1, 1, 1, 1, 1, 0, 1, 0, 0]) [1, 0, 0, 1, 0] (onNormal (fun env' H' => R0 (env' 1) (env' 7) (env' 9) H') (kAt S Try.prog C n 89 f12_c [1, 1, 1, 1, 1, 1, 0, 1, 0] (fin Try.prog Try.f12))))))) = (fun env H => f12_L2 S C n R0 (f12_L1 S C n R0 m) n (env 1) (env 7) (env 9) (env 10) (env 11) H) := by funext env H; exact f12_L2_eq S C n R0 (f12_L1 S C n R0 m) n env H
  rw [e0] at h1
  exact h1.trans (by kernel_rfl)


noncomputable def f12_J2 (S : Seam (Value × Heap)) (C : CallF) (n : Nat) (R3 : Value→Value→Value→Value→Heap→Option (Value × Heap)) (y125 y126 y127 y128 : Value) (H129 : Heap) : Option (Value × Heap) :=
 S.b (up (binB Try.prog .add 3 y128 (.int .i64 1)) H129) fun y130 H131 =>
 R3 y125 y126 y127 y130 H131

noncomputable def f12_L3 (S : Seam (Value × Heap)) (C : CallF) (n : Nat) : Nat → Value → Value → Value → Value → Heap → Option (Value × Heap)
 | 0, _, _, _, _, _ => none
 | m + 1, y103, y104, y105, y106, H107 =>
   S.b (up (lenS y103) H107) fun y108 H109 =>
   S.b (up (binB Try.prog .lss 3 y106 y108) H109) fun y110 H111 =>
   S.i y110
   (S.b (up (iAddrS 1 y104 y106) H111) fun y112 H113 =>
    S.b (ldC y112 H113) fun y114 H115 =>
    S.i y114
    (S.b (bldS 1 1 [(.int .i64 0)] [(0, 1, y106)] H115) fun y116 H117 =>
     S.b (app 1 8 y105 y116 H117) fun y118 H119 =>
     f12_J2 S C n (f12_L3 S C n m) y103 y104 y118 y106 H119)
    (f12_J2 S C n (f12_L3 S C n m) y103 y104 y105 y106 H115))
   (some (.tuple #[y105, (.int .i64 0)], H111))

theorem f12_L3_eq (S : Seam (Value × Heap)) (C : CallF) (n : Nat) : ∀ (m : Nat) (env : Env) (H : Heap), aloopK (acodeK S Try.prog C n 89 (cAt f12_c [1, 1, 1, 1, 1, 1, 1, 1, 0, 1, 0, 0])) m env H (kAt S Try.prog C n 89 f12_c [1, 1, 1, 1, 1, 1, 1, 1, 0, 1, 0] (fin Try.prog Try.f12)) = f12_L3 S C n m (env 1) (env 7) (env 13) (env 14) H := by
  intro m env H
  refine aloopK_eq (L := fun m env H => f12_L3 S C n m (env 1) (env 7) (env 13) (env 14) H) (fun env H => rfl) (fun m env H => ?_) m env H
  kernel_rfl


noncomputable def f12_L0 (S : Seam (Value × Heap)) (C : CallF) (n : Nat) : Nat → Value → Value → Value → Heap → Option (Value × Heap)
 | 0, _, _, _, _ => none
 | m + 1, y19, y20, y21, H22 =>
   S.b (up (lenS y19) H22) fun y23 H24 =>
   S.b (up (binB Try.prog .lss 3 y21 y23) H24) fun y25 H26 =>
   S.i y25
   (f12_L1 S C n (f12_L0 S C n m) n y19 y20 y21 (.int .i64 0) H26)
   (f12_L3 S C n n y19 y20 (.slice none 0 0) (.int .i64 0) H26)

noncomputable def f12_L0G (S : Seam (Value × Heap)) (C : CallF) (n : Nat) (R0 : Value→Value→Value→Heap→Option (Value × Heap)) (P1 : Env → Heap → Option (Value × Heap)) (P3 : Env → Heap → Option (Value × Heap)) (env : Env) (H : Heap) : Option (Value × Heap) :=
 S.b (up (lenS (env 1)) H) fun y132 H133 =>
 S.b (up (binB Try.prog .lss 3 (env 9) y132) H133) fun y134 H135 =>
 S.i y134
 (P1 (putE 89 (putE 89 (putE 89 (putE 89 (putE 89 env (some 31) (env 9)) (some 32) (env 1)) (some 33) y132) (some 34) y134) (some 10) (.int .i64 0)) H135)
 (P3 (putE 89 (putE 89 (putE 89 (putE 89 (putE 89 (putE 89 env (some 31) (env 9)) (some 32) (env 1)) (some 33) y132) (some 34) y134) (some 13) (.slice none 0 0)) (some 14) (.int .i64 0)) H135)

theorem f12_L0_eq (S : Seam (Value × Heap)) (C : CallF) (n : Nat) : ∀ (m : Nat) (env : Env) (H : Heap), aloopK (acodeK S Try.prog C n 89 (cAt f12_c [1, 1, 1, 1, 1, 1, 0, 1, 0, 0])) m env H (kAt S Try.prog C n 89 f12_c [1, 1, 1, 1, 1, 1, 0, 1, 0] (fin Try.prog Try.f12)) = f12_L0 S C n m (env 1) (env 7) (env 9) H := by
  intro m env H
  refine aloopK_eq (L := fun m env H => f12_L0 S C n m (env 1) (env 7) (env 9) H) (fun env H => rfl) (fun m env H => ?_) m env H
  have h1 : acodeK S Try.prog C n 89 (cAt f12_c [1, 1, 1, 1, 1, 1, 0, 1, 0, 0]) env H (onNormal (fun env' H' => f12_L0 S C n m (env' 1) (env' 7) (env' 9) H') (kAt S Try.prog C n 89 f12_c [1, 1, 1, 1, 1, 1, 0, 1, 0] (fin Try.prog Try.f12))) = f12_L0G S C n (f12_L0 S C n m) (fun env H => aloopK (acodeK S Try.prog C n 89 (cAt f12_c [1, 1, 1, 1, 1, 1, 0, 1, 0, 0, 1, 0, 0, 1, 0, 0])) n env H (kAt S Try.prog C n 89 (cAt f12_c [1, 1, 1, 1, 1, 1, 0, 1, 0, 0]) [1, 0, 0, 1, 0] (onNormal (fun env' H' => (f12_L0 S C n m) (env' 1) (env' 7) (env' 9) H') (kAt S Try.prog C n 89 f12_c [1, 1, 1, 1, 1, 1, 0, 1, 0] (fin Try.prog Try.f12))))) (fun env H => aloopK (acodeK S Try.prog C n 89 (cAt f12_c [1, 1, 1, 1, 1, 1, 1, 1, 0, 1, 0, 0])) n env H (kAt S Try.prog C n 89 f12_c [1, 1, 1, 1, 1, 1, 1, 1, 0, 1, 0] (fin Try.prog Try.f12))) env H := by kernel_rfl
  have e0 : (fun env H => aloopK (acodeK S Try.prog C n 89 (cAt f12_c [1, 1, 1, 1, 1, 1, 0, 1, 0, 0, 1, 0, 0, 1, 0, 0])) n env H (kAt S Try.prog C n 89 (cAt f12_c [1, 1, 1, 1, 1, 1, 0, 1, 0, 0]) [1, 0, 0, 1, 0] (onNormal (fun env' H' => (f12_L0 S C n m) (env' 1) (env' 7) (env' 9) H') (kAt S Try.prog C n 89 f12_c [1, 1, 1, 1, 1, 1, 0, 1, 0] (fin Try.prog Try.f12))))) = (fun env H => f12_L1 S C n (f12_L0 S C n m) n (env 1) (env 7) (env 9) (env 10) H) := by funext env H; exact f12_L1_eq S C n (f12_L0 S C n m) n env H
  have e1 : (fun env H => aloopK (acodeK S Try.prog C n 89 (cAt f12_c [1, 1, 1, 1, 1, 1, 1, 1, 0, 1, 0, 0])) n env H (kAt S Try.prog C n 89 f12_c [1, 1, 1, 1, 1, 1, 1, 1, 0, 1, 0] (fin Try.prog Try.f12))) = (fun env H => f12_L3 S C n n (env 1) (env 7) (env 13) (env 14) H) := by funext env H; exact f12_L3_eq S C n n env H
  rw [e0, e1] at h1
  exact h1.trans (by kernel_rfl)


noncomputable def f12 (S : Seam (Value × Heap)) (C : CallF) (n : Nat) (x0 : Value) (x1 : Value) (H : Heap) : Option (Value × Heap) :=
 S.b (C 15 [x1] H) fun y1 H2 =>
 S.b (up (binB Try.prog .neq 26 y1 (.int .i64 0)) H2) fun y3 H4 =>
 S.i y3
 (some (.tuple #[(.slice none 0 0), y1], H4))
 (S.b (up (lenS x1) H4) fun y5 H6 =>
  S.b (mkS 1 1 [(.bool false)] y5 y5 H6) fun y7 H8 =>
  S.b (C 16 [x1, x0] H8) fun y9 H10 =>
  S.b (up (binB Try.prog .geq 3 y9 (.int .i64 0)) H10) fun y11 H12 =>
  S.i y11
  (S.b (up (iAddrS 1 y7 y9) H12) fun y13 H14 =>
   S.b (stV 1 y13 (.bool true) H14) fun _ H15 =>
   f12_L0 S C n n x1 y7 (.int .i64 0) H15)
  (f12_L0 S C n n x1 y7 (.int .i64 0) H12))

noncomputable def f12G (S : Seam (Value × Heap)) (C : CallF) (n : Nat) (P0 : Env → Heap → Option (Value × Heap)) (x0 : Value) (x1 : Value) (H : Heap) : Option (Value × Heap) :=
 S.b (C 15 [x1] H) fun y136 H137 =>
 S.b (up (binB Try.prog .neq 26 y136 (.int .i64 0)) H137) fun y138 H139 =>
 S.i y138
 (some (.tuple #[(.slice none 0 0), y136], H139))
 (S.b (up (lenS x1) H139) fun y140 H141 =>
  S.b (mkS 1 1 [(.bool false)] y140 y140 H141) fun y142 H143 =>
  S.b (C 16 [x1, x0] H143) fun y144 H145 =>
  S.b (up (binB Try.prog .geq 3 y144 (.int .i64 0)) H145) fun y146 H147 =>
  S.i y146
  (S.b (up (iAddrS 1 y142 y144) H147) fun y148 H149 =>
   S.b (stV 1 y148 (.bool true) H149) fun u150 H151 =>
   P0 (putE 89 (putE 89 (putE 89 (putE 89 (putE 89 (putE 89 (putE 89 (putE 89 (putE 89 (putE 89 (putE 89 (putE 89 (putE 89 (putE 89 (putE 89 (putE 89 (putE 89 (putE 89 (putE 89 (putE 89 (putE 89 (putE 89 (env0 [x0, x1]) (some 4) (.slice none 0 0)) (some 5) (.int .i64 0)) (some 15) x1) (some 16) y136) (some 6) y136) (some 17) y136) (some 18) y138) (some 20) x1) (some 21) y140) (some 22) y142) (some 7) y142) (some 23) x1) (some 24) x0) (some 25) y144) (some 8) y144) (some 26) y144) (some 27) y146) (some 28) y142) (some 29) y144) (some 30) y148) none u150) (some 9) (.int .i64 0)) H151)
  (P0 (putE 89 (putE 89 (putE 89 (putE 89 (putE 89 (putE 89 (putE 89 (putE 89 (putE 89 (putE 89 (putE 89 (putE 89 (putE 89 (putE 89 (putE 89 (putE 89 (putE 89 (putE 89 (env0 [x0, x1]) (some 4) (.slice none 0 0)) (some 5) (.int .i64 0)) (some 15) x1) (some 16) y136) (some 6) y136) (some 17) y136) (some 18) y138) (some 20) x1) (some 21) y140) (some 22) y142) (some 7) y142) (some 23) x1) (some 24) x0) (some 25) y144) (some 8) y144) (some 26) y144) (some 27) y146) (some 9) (.int .i64 0)) H147))

theorem f12_main (S : Seam (Value × Heap)) (C : CallF) (n : Nat) (x0 : Value) (x1 : Value) (H : Heap) : acodeK S Try.prog C n 89 f12_c (env0 [x0, x1]) H (fin Try.prog Try.f12) = f12 S C n x0 x1 H := by
  have h1 : acodeK S Try.prog C n 89 f12_c (env0 [x0, x1]) H (fin Try.prog Try.f12) = f12G S C n (fun env H => aloopK (acodeK S Try.prog C n 89 (cAt f12_c [1, 1, 1, 1, 1, 1, 0, 1, 0, 0])) n env H (kAt S Try.prog C n 89 f12_c [1, 1, 1, 1, 1, 1, 0, 1, 0] (fin Try.prog Try.f12))) x0 x1 H := by kernel_rfl
  have e0 : (fun env H => aloopK (acodeK S Try.prog C n 89 (cAt f12_c [1, 1, 1, 1, 1, 1, 0, 1, 0, 0])) n env H (kAt S Try.prog C n 89 f12_c [1, 1, 1, 1, 1, 1, 0, 1, 0] (fin Try.prog Try.f12))) = (fun env H => f12_L0 S C n n (env 1) (env 7) (env 9) H) := by funext env H; exact f12_L0_eq S C n n env H
  rw [e0] at h1
  exact h1.trans (by kernel_rfl)


theorem f12_eq {gl : Bool} {E : Ext} (hE : E 12 = none) (n : Nat) (x0 : Value) (x1 : Value) (H : Heap) : acall Try.prog gl E (n + 1) 12 [x0, x1] H = f12 real (acall Try.prog gl E n) n x0 x1 H :=
  (acall_eq (N := 89) Try.func12 (by kernel_rfl) (by kernel_rfl) hE (okgl f12_c (by kernel_rfl)) (by kernel_rfl)).trans (f12_main real _ n x0 x1 H)

/-! incunable/imports.begin -/
noncomputable def f13_c : Code := (Try.f13.body).getD .skip

noncomputable def f13_L0 (S : Seam (Value × Heap)) (C : CallF) (n : Nat) : Nat → Value → Value → Value → Value → Value → Heap → Option (Value × Heap)
 | 0, _, _, _, _, _, _ => none
 | m + 1, y17, y18, y19, y20, y21, H22 =>
   S.b (up (binB Try.prog .lss 3 y21 y20) H22) fun y23 H24 =>
   S.i y23
   (S.b (up (iAddrS 2 y19 y21) H24) fun y25 H26 =>
    S.b (ldA 2 y25 H26) fun y27 H28 =>
    S.b (newV [(.string ⟨#[]⟩), (.slice none 0 0)] H28) fun y29 H30 =>
    S.b (stV 2 y29 y27 H30) fun _ H31 =>
    S.b (nilC y18 H31) fun y32 H33 =>
    S.b (up (fAddr 1 y32) H33) fun y34 H35 =>
    S.c true (S.b (ldC y34 H35) fun y36 H37 =>
    S.b (up (fAddr 0 y29) H37) fun y38 H39 =>
    S.c true (S.b (ldC y38 H39) fun y40 H41 =>
    S.b ((if keyB .string y40 then upM .string y36 y40 y21 H41 else none)) fun _ H42 =>
    S.c true (S.b (up (binB Try.prog .add 3 y21 (.int .i64 1)) H42) fun y43 H44 =>
     f13_L0 S C n m y17 y18 y19 y20 y43 H44))))
   (S.b (nilC y18 H24) fun y45 H46 =>
    S.b (up (fAddr 1 y45) H46) fun y47 H48 =>
    S.b (ldC y47 H48) fun y49 H50 =>
    S.b (lenM y49 H50) fun y51 H52 =>
    S.b (up (lenS y17) H52) fun y53 H54 =>
    S.b (up (binB Try.prog .lss 3 y51 y53) H54) fun y55 H56 =>
    S.i y55
    (some (.tuple #[(.pointer none), (.int .i64 2)], H56))
    (some (.tuple #[y18, (.int .i64 0)], H56)))

theorem f13_L0_eq (S : Seam (Value × Heap)) (C : CallF) (n : Nat) : ∀ (m : Nat) (env : Env) (H : Heap), aloopK (acodeK S Try.prog C n 41 (cAt f13_c [1, 1, 1, 0, 1, 0, 0])) m env H (kAt S Try.prog C n 41 f13_c [1, 1, 1, 0, 1, 0] (fin Try.prog Try.f13)) = f13_L0 S C n m (env 0) (env 4) (env 17) (env 18) (env 19) H := by
  intro m env H
  refine aloopK_eq (L := fun m env H => f13_L0 S C n m (env 0) (env 4) (env 17) (env 18) (env 19) H) (fun env H => rfl) (fun m env H => ?_) m env H
  kernel_rfl


noncomputable def f13 (S : Seam (Value × Heap)) (C : CallF) (n : Nat) (x0 : Value) (H : Heap) : Option (Value × Heap) :=
 S.b (up (lenS x0) H) fun y1 H2 =>
 S.b (up (binB Try.prog .gtr 3 y1 (.int .i64 1000)) H2) fun y3 H4 =>
 S.i y3
 (some (.tuple #[(.pointer none), (.int .i64 5)], H4))
 (S.b (mkM H4) fun y5 H6 =>
  S.b (up (lenS x0) H6) fun y7 H8 =>
  S.b (mkS 1 8 [(.int .i64 0)] y7 y7 H8) fun y9 H10 =>
  S.b (bld [(.slice none 0 0), (.map none), (.slice none 0 0), (.int .i64 0), (.slice none 0 0), (.string ⟨#[]⟩)] [(0, 1, x0), (1, 1, y5), (2, 1, y9)] H10) fun y11 H12 =>
  S.b (newV (Value.cells y11).toList H12) fun y13 H14 =>
  S.b (up (lenS x0) H14) fun y15 H16 =>
  f13_L0 S C n n x0 y13 x0 y15 (.int .i64 0) H16)

noncomputable def f13G (S : Seam (Value × Heap)) (C : CallF) (n : Nat) (P0 : Env → Heap → Option (Value × Heap)) (x0 : Value) (H : Heap) : Option (Value × Heap) :=
 S.b (up (lenS x0) H) fun y57 H58 =>
 S.b (up (binB Try.prog .gtr 3 y57 (.int .i64 1000)) H58) fun y59 H60 =>
 S.i y59
 (some (.tuple #[(.pointer none), (.int .i64 5)], H60))
 (S.b (mkM H60) fun y61 H62 =>
  S.b (up (lenS x0) H62) fun y63 H64 =>
  S.b (mkS 1 8 [(.int .i64 0)] y63 y63 H64) fun y65 H66 =>
  S.b (bld [(.slice none 0 0), (.map none), (.slice none 0 0), (.int .i64 0), (.slice none 0 0), (.string ⟨#[]⟩)] [(0, 1, x0), (1, 1, y61), (2, 1, y65)] H66) fun y67 H68 =>
  S.b (newV (Value.cells y67).toList H68) fun y69 H70 =>
  S.b (up (lenS x0) H70) fun y71 H72 =>
  P0 (putE 41 (putE 41 (putE 41 (putE 41 (putE 41 (putE 41 (putE 41 (putE 41 (putE 41 (putE 41 (putE 41 (putE 41 (putE 41 (putE 41 (putE 41 (putE 41 (env0 [x0]) (some 2) (.pointer none)) (some 3) (.int .i64 0)) (some 7) x0) (some 8) y57) (some 9) y59) (some 10) x0) (some 11) y61) (some 12) x0) (some 13) y63) (some 14) y65) (some 15) y67) (some 16) y69) (some 4) y69) (some 17) x0) (some 18) y71) (some 19) (.int .i64 0)) H72)

theorem f13_main (S : Seam (Value × Heap)) (C : CallF) (n : Nat) (x0 : Value) (H : Heap) : acodeK S Try.prog C n 41 f13_c (env0 [x0]) H (fin Try.prog Try.f13) = f13 S C n x0 H := by
  have h1 : acodeK S Try.prog C n 41 f13_c (env0 [x0]) H (fin Try.prog Try.f13) = f13G S C n (fun env H => aloopK (acodeK S Try.prog C n 41 (cAt f13_c [1, 1, 1, 0, 1, 0, 0])) n env H (kAt S Try.prog C n 41 f13_c [1, 1, 1, 0, 1, 0] (fin Try.prog Try.f13))) x0 H := by kernel_rfl
  have e0 : (fun env H => aloopK (acodeK S Try.prog C n 41 (cAt f13_c [1, 1, 1, 0, 1, 0, 0])) n env H (kAt S Try.prog C n 41 f13_c [1, 1, 1, 0, 1, 0] (fin Try.prog Try.f13))) = (fun env H => f13_L0 S C n n (env 0) (env 4) (env 17) (env 18) (env 19) H) := by funext env H; exact f13_L0_eq S C n n env H
  rw [e0] at h1
  exact h1.trans (by kernel_rfl)


theorem f13_eq {gl : Bool} {E : Ext} (hE : E 13 = none) (n : Nat) (x0 : Value) (H : Heap) : acall Try.prog gl E (n + 1) 13 [x0] H = f13 real (acall Try.prog gl E n) n x0 H :=
  (acall_eq (N := 41) Try.func13 (by kernel_rfl) (by kernel_rfl) hE (okgl f13_c (by kernel_rfl)) (by kernel_rfl)).trans (f13_main real _ n x0 H)

/-! (*incunable/imports.walk).through -/
noncomputable def f14_c : Code := (Try.f14.body).getD .skip

noncomputable def f14_J1 (S : Seam (Value × Heap)) (C : CallF) (n : Nat) (R0 : Value→Value→Value→Value→Value→Heap→Option (Value × Heap)) (y119 y120 y121 y122 y123 : Value) (H124 : Heap) : Option (Value × Heap) :=
 S.b (up (binB Try.prog .add 3 y123 (.int .i64 1)) H124) fun y125 H126 =>
 R0 y119 y120 y121 y122 y125 H126

noncomputable def f14_L0 (S : Seam (Value × Heap)) (C : CallF) (n : Nat) : Nat → Value → Value → Value → Value → Value → Heap → Option (Value × Heap)
 | 0, _, _, _, _, _, _ => none
 | m + 1, y59, y60, y61, y62, y63, H64 =>
   S.b (up (binB Try.prog .lss 3 y63 y62) H64) fun y65 H66 =>
   S.i y65
   (S.b (up (iAddrS 1 y61 y63) H66) fun y67 H68 =>
    S.b (ldC y67 H68) fun y69 H70 =>
    S.b (nilC y59 H70) fun y71 H72 =>
    S.b (up (fAddr 1 y71) H72) fun y73 H74 =>
    S.b (ldC y73 H74) fun y75 H76 =>
    S.b ((if keyB .string y69 then lkM .string (.int .i64 0) true y75 y69 H76 else none)) fun y77 H78 =>
    S.b (extr 0 y77 H78) fun y79 H80 =>
    S.b (extr 1 y77 H80) fun y81 H82 =>
    S.b (up (unB .not y81) H82) fun y83 H84 =>
    S.i y83
    (S.b (C 21 [y59, y69, (.int .i64 160)] H84) fun y85 H86 =>
     some (y85, H86))
    (S.b (nilC y59 H84) fun y87 H88 =>
     S.b (up (fAddr 2 y87) H88) fun y89 H90 =>
     S.b (ldC y89 H90) fun y91 H92 =>
     S.b (up (iAddrS 1 y91 y79) H92) fun y93 H94 =>
     S.b (ldC y93 H94) fun y95 H96 =>
     S.b (up (binB Try.prog .eql 3 y95 (.int .i64 1)) H96) fun y97 H98 =>
     S.i y97
     (S.b (C 21 [y59, y69, (.int .i64 161)] H98) fun y99 H100 =>
      some (y99, H100))
     (S.b (nilC y59 H98) fun y101 H102 =>
      S.b (up (fAddr 2 y101) H102) fun y103 H104 =>
      S.b (ldC y103 H104) fun y105 H106 =>
      S.b (up (iAddrS 1 y105 y79) H106) fun y107 H108 =>
      S.b (ldC y107 H108) fun y109 H110 =>
      S.b (up (binB Try.prog .eql 3 y109 (.int .i64 2)) H110) fun y111 H112 =>
      S.i y111
      (f14_J1 S C n (f14_L0 S C n m) y59 y60 y61 y62 y63 H112)
      (S.b (C 14 [y59, y79] H112) fun y127 H128 =>
       S.b (up (binB Try.prog .neq 26 y127 (.int .i64 0)) H128) fun y129 H130 =>
       S.i y129
       (some (y127, H130))
       (f14_J1 S C n (f14_L0 S C n m) y59 y60 y61 y62 y63 H130)))))
   (S.b (nilC y59 H66) fun y131 H132 =>
    S.b (up (fAddr 2 y131) H132) fun y133 H134 =>
    S.c true (S.b (ldC y133 H134) fun y135 H136 =>
    S.b (nilC y59 H136) fun y137 H138 =>
    S.b (up (fAddr 4 y137) H138) fun y139 H140 =>
    S.c true (S.b (ldC y139 H140) fun y141 H142 =>
    S.b (bldS 1 1 [(.int .i64 0)] [(0, 1, y60)] H142) fun y143 H144 =>
    S.b (app 1 8 y141 y143 H144) fun y145 H146 =>
    S.c (sameBlk H144 H146 (blkOf y133) && true) (S.b (up (iAddrS 1 y135 y60) H146) fun y147 H148 =>
     S.b (stV 1 y147 (.int .i64 2) H148) fun _ H149 =>
     S.c true (S.b (nilC y59 H149) fun y150 H151 =>
      S.b (up (fAddr 4 y150) H151) fun y152 H153 =>
      S.b (stV 1 y152 y145 H153) fun _ H154 =>
      S.c true (some ((.int .i64 0), H154)))))))

theorem f14_L0_eq (S : Seam (Value × Heap)) (C : CallF) (n : Nat) : ∀ (m : Nat) (env : Env) (H : Heap), aloopK (acodeK S Try.prog C n 110 (cAt f14_c [1, 1, 1, 1, 0, 1, 0, 0])) m env H (kAt S Try.prog C n 110 f14_c [1, 1, 1, 1, 0, 1, 0] (fin Try.prog Try.f14)) = f14_L0 S C n m (env 0) (env 1) (env 45) (env 46) (env 47) H := by
  intro m env H
  refine aloopK_eq (L := fun m env H => f14_L0 S C n m (env 0) (env 1) (env 45) (env 46) (env 47) H) (fun env H => rfl) (fun m env H => ?_) m env H
  kernel_rfl


noncomputable def f14 (S : Seam (Value × Heap)) (C : CallF) (n : Nat) (x0 : Value) (x1 : Value) (H : Heap) : Option (Value × Heap) :=
 S.b (nilC x0 H) fun y1 H2 =>
 S.b (up (fAddr 3 y1) H2) fun y3 H4 =>
 S.b (ldC y3 H4) fun y5 H6 =>
 S.b (up (binB Try.prog .eql 3 y5 (.int .i64 32)) H6) fun y7 H8 =>
 S.i y7
 (S.b (nilC x0 H8) fun y9 H10 =>
  S.b (up (fAddr 0 y9) H10) fun y11 H12 =>
  S.b (ldC y11 H12) fun y13 H14 =>
  S.b (up (iAddrS 2 y13 x1) H14) fun y15 H16 =>
  S.b (up (fAddr 0 y15) H16) fun y17 H18 =>
  S.b (ldC y17 H18) fun y19 H20 =>
  S.b (C 21 [x0, y19, (.int .i64 5)] H20) fun y21 H22 =>
  some (y21, H22))
 (S.b (nilC x0 H8) fun y23 H24 =>
  S.b (up (fAddr 3 y23) H24) fun y25 H26 =>
  S.b (ldC y25 H26) fun y27 H28 =>
  S.b (up (binB Try.prog .add 3 y27 (.int .i64 1)) H28) fun y29 H30 =>
  S.b (nilC x0 H30) fun y31 H32 =>
  S.b (up (fAddr 3 y31) H32) fun y33 H34 =>
  S.b (stV 1 y33 y29 H34) fun _ H35 =>
  S.b (nilC x0 H35) fun y36 H37 =>
  S.b (up (fAddr 2 y36) H37) fun y38 H39 =>
  S.b (ldC y38 H39) fun y40 H41 =>
  S.b (up (iAddrS 1 y40 x1) H41) fun y42 H43 =>
  S.b (stV 1 y42 (.int .i64 1) H43) fun _ H44 =>
  S.b (nilC x0 H44) fun y45 H46 =>
  S.b (up (fAddr 0 y45) H46) fun y47 H48 =>
  S.b (ldC y47 H48) fun y49 H50 =>
  S.b (up (iAddrS 2 y49 x1) H50) fun y51 H52 =>
  S.b (up (fAddr 1 y51) H52) fun y53 H54 =>
  S.b (ldC y53 H54) fun y55 H56 =>
  S.b (up (lenS y55) H56) fun y57 H58 =>
  f14_L0 S C n n x0 x1 y55 y57 (.int .i64 0) H58)

noncomputable def f14G (S : Seam (Value × Heap)) (C : CallF) (n : Nat) (P0 : Env → Heap → Option (Value × Heap)) (x0 : Value) (x1 : Value) (H : Heap) : Option (Value × Heap) :=
 S.b (nilC x0 H) fun y155 H156 =>
 S.b (up (fAddr 3 y155) H156) fun y157 H158 =>
 S.b (ldC y157 H158) fun y159 H160 =>
 S.b (up (binB Try.prog .eql 3 y159 (.int .i64 32)) H160) fun y161 H162 =>
 S.i y161
 (S.b (nilC x0 H162) fun y163 H164 =>
  S.b (up (fAddr 0 y163) H164) fun y165 H166 =>
  S.b (ldC y165 H166) fun y167 H168 =>
  S.b (up (iAddrS 2 y167 x1) H168) fun y169 H170 =>
  S.b (up (fAddr 0 y169) H170) fun y171 H172 =>
  S.b (ldC y171 H172) fun y173 H174 =>
  S.b (C 21 [x0, y173, (.int .i64 5)] H174) fun y175 H176 =>
  some (y175, H176))
 (S.b (nilC x0 H162) fun y177 H178 =>
  S.b (up (fAddr 3 y177) H178) fun y179 H180 =>
  S.b (ldC y179 H180) fun y181 H182 =>
  S.b (up (binB Try.prog .add 3 y181 (.int .i64 1)) H182) fun y183 H184 =>
  S.b (nilC x0 H184) fun y185 H186 =>
  S.b (up (fAddr 3 y185) H186) fun y187 H188 =>
  S.b (stV 1 y187 y183 H188) fun u189 H190 =>
  S.b (nilC x0 H190) fun y191 H192 =>
  S.b (up (fAddr 2 y191) H192) fun y193 H194 =>
  S.b (ldC y193 H194) fun y195 H196 =>
  S.b (up (iAddrS 1 y195 x1) H196) fun y197 H198 =>
  S.b (stV 1 y197 (.int .i64 1) H198) fun u199 H200 =>
  S.b (nilC x0 H200) fun y201 H202 =>
  S.b (up (fAddr 0 y201) H202) fun y203 H204 =>
  S.b (ldC y203 H204) fun y205 H206 =>
  S.b (up (iAddrS 2 y205 x1) H206) fun y207 H208 =>
  S.b (up (fAddr 1 y207) H208) fun y209 H210 =>
  S.b (ldC y209 H210) fun y211 H212 =>
  S.b (up (lenS y211) H212) fun y213 H214 =>
  P0 (putE 110 (putE 110 (putE 110 (putE 110 (putE 110 (putE 110 (putE 110 (putE 110 (putE 110 (putE 110 (putE 110 (putE 110 (putE 110 (putE 110 (putE 110 (putE 110 (putE 110 (putE 110 (putE 110 (putE 110 (putE 110 (putE 110 (putE 110 (putE 110 (putE 110 (putE 110 (putE 110 (putE 110 (putE 110 (putE 110 (putE 110 (env0 [x0, x1]) (some 4) (.int .i64 0)) (some 10) x0) (some 11) y155) (some 12) y157) (some 13) y159) (some 14) y161) (some 25) x0) (some 26) y177) (some 27) y179) (some 28) y181) (some 29) y183) (some 30) y185) (some 31) y187) none u189) (some 32) x0) (some 33) y191) (some 34) y193) (some 35) y195) (some 36) x1) (some 37) y197) none u199) (some 38) x0) (some 39) y201) (some 40) y203) (some 41) y205) (some 42) x1) (some 43) y207) (some 44) y209) (some 45) y211) (some 46) y213) (some 47) (.int .i64 0)) H214)

theorem f14_main (S : Seam (Value × Heap)) (C : CallF) (n : Nat) (x0 : Value) (x1 : Value) (H : Heap) : acodeK S Try.prog C n 110 f14_c (env0 [x0, x1]) H (fin Try.prog Try.f14) = f14 S C n x0 x1 H := by
  have h1 : acodeK S Try.prog C n 110 f14_c (env0 [x0, x1]) H (fin Try.prog Try.f14) = f14G S C n (fun env H => aloopK (acodeK S Try.prog C n 110 (cAt f14_c [1, 1, 1, 1, 0, 1, 0, 0])) n env H (kAt S Try.prog C n 110 f14_c [1, 1, 1, 1, 0, 1, 0] (fin Try.prog Try.f14))) x0 x1 H := by kernel_rfl
  have e0 : (fun env H => aloopK (acodeK S Try.prog C n 110 (cAt f14_c [1, 1, 1, 1, 0, 1, 0, 0])) n env H (kAt S Try.prog C n 110 f14_c [1, 1, 1, 1, 0, 1, 0] (fin Try.prog Try.f14))) = (fun env H => f14_L0 S C n n (env 0) (env 1) (env 45) (env 46) (env 47) H) := by funext env H; exact f14_L0_eq S C n n env H
  rw [e0] at h1
  exact h1.trans (by kernel_rfl)


theorem f14_eq {gl : Bool} {E : Ext} (hE : E 14 = none) (n : Nat) (x0 : Value) (x1 : Value) (H : Heap) : acall Try.prog gl E (n + 1) 14 [x0, x1] H = f14 real (acall Try.prog gl E n) n x0 x1 H :=
  (acall_eq (N := 110) Try.func14 (by kernel_rfl) (by kernel_rfl) hE (okgl f14_c (by kernel_rfl)) (by kernel_rfl)).trans (f14_main real _ n x0 x1 H)

/-! incunable/incunableref16.May -/
noncomputable def f15_c : Code := (Try.f15.body).getD .skip

noncomputable def f15_L1 (S : Seam (Value × Heap)) (C : CallF) (n : Nat) (R0 : Value→Value→Heap→Option (Value × Heap)) : Nat → Value → Value → Value → Heap → Option (Value × Heap)
 | 0, _, _, _, _ => none
 | m + 1, y12, y13, y14, H15 =>
   S.b (up (binB Try.prog .lss 3 y14 y13) H15) fun y16 H17 =>
   S.i y16
   (S.b (up (iAddrS 2 y12 y14) H17) fun y18 H19 =>
    S.b (up (fAddr 0 y18) H19) fun y20 H21 =>
    S.c true (S.b (ldC y20 H21) fun y22 H23 =>
    S.b (up (iAddrS 2 y12 y13) H23) fun y24 H25 =>
    S.b (up (fAddr 0 y24) H25) fun y26 H27 =>
    S.c true (S.b (ldC y26 H27) fun y28 H29 =>
    S.b (up (binB Try.prog .eql 9 y22 y28) H29) fun y30 H31 =>
    S.i y30
    (some ((.int .i64 2), H31))
    (S.b (up (binB Try.prog .add 3 y14 (.int .i64 1)) H31) fun y32 H33 =>
     f15_L1 S C n R0 m y12 y13 y32 H33))))
   (S.b (up (binB Try.prog .add 3 y13 (.int .i64 1)) H17) fun y34 H35 =>
    R0 y12 y34 H35)

theorem f15_L1_eq (S : Seam (Value × Heap)) (C : CallF) (n : Nat) (R0 : Value→Value→Heap→Option (Value × Heap)) : ∀ (m : Nat) (env : Env) (H : Heap), aloopK (acodeK S Try.prog C n 30 (cAt f15_c [1, 1, 0, 1, 0, 0, 1, 0, 0, 1, 0, 0])) m env H (kAt S Try.prog C n 30 (cAt f15_c [1, 1, 0, 1, 0, 0]) [1, 0, 0, 1, 0] (onNormal (fun env' H' => R0 (env' 0) (env' 3) H') (kAt S Try.prog C n 30 f15_c [1, 1, 0, 1, 0] (fin Try.prog Try.f15)))) = f15_L1 S C n R0 m (env 0) (env 3) (env 4) H := by
  intro m env H
  refine aloopK_eq (L := fun m env H => f15_L1 S C n R0 m (env 0) (env 3) (env 4) H) (fun env H => rfl) (fun m env H => ?_) m env H
  kernel_rfl


noncomputable def f15_L0 (S : Seam (Value × Heap)) (C : CallF) (n : Nat) : Nat → Value → Value → Heap → Option (Value × Heap)
 | 0, _, _, _ => none
 | m + 1, y5, y6, H7 =>
   S.b (up (lenS y5) H7) fun y8 H9 =>
   S.b (up (binB Try.prog .lss 3 y6 y8) H9) fun y10 H11 =>
   S.i y10
   (f15_L1 S C n (f15_L0 S C n m) n y5 y6 (.int .i64 0) H11)
   (some ((.int .i64 0), H11))

noncomputable def f15_L0G (S : Seam (Value × Heap)) (C : CallF) (n : Nat) (R0 : Value→Value→Heap→Option (Value × Heap)) (P1 : Env → Heap → Option (Value × Heap)) (env : Env) (H : Heap) : Option (Value × Heap) :=
 S.b (up (lenS (env 0)) H) fun y36 H37 =>
 S.b (up (binB Try.prog .lss 3 (env 3) y36) H37) fun y38 H39 =>
 S.i y38
 (P1 (putE 30 (putE 30 (putE 30 (putE 30 (putE 30 env (some 8) (env 3)) (some 9) (env 0)) (some 10) y36) (some 11) y38) (some 4) (.int .i64 0)) H39)
 (some ((.int .i64 0), H39))

theorem f15_L0_eq (S : Seam (Value × Heap)) (C : CallF) (n : Nat) : ∀ (m : Nat) (env : Env) (H : Heap), aloopK (acodeK S Try.prog C n 30 (cAt f15_c [1, 1, 0, 1, 0, 0])) m env H (kAt S Try.prog C n 30 f15_c [1, 1, 0, 1, 0] (fin Try.prog Try.f15)) = f15_L0 S C n m (env 0) (env 3) H := by
  intro m env H
  refine aloopK_eq (L := fun m env H => f15_L0 S C n m (env 0) (env 3) H) (fun env H => rfl) (fun m env H => ?_) m env H
  have h1 : acodeK S Try.prog C n 30 (cAt f15_c [1, 1, 0, 1, 0, 0]) env H (onNormal (fun env' H' => f15_L0 S C n m (env' 0) (env' 3) H') (kAt S Try.prog C n 30 f15_c [1, 1, 0, 1, 0] (fin Try.prog Try.f15))) = f15_L0G S C n (f15_L0 S C n m) (fun env H => aloopK (acodeK S Try.prog C n 30 (cAt f15_c [1, 1, 0, 1, 0, 0, 1, 0, 0, 1, 0, 0])) n env H (kAt S Try.prog C n 30 (cAt f15_c [1, 1, 0, 1, 0, 0]) [1, 0, 0, 1, 0] (onNormal (fun env' H' => (f15_L0 S C n m) (env' 0) (env' 3) H') (kAt S Try.prog C n 30 f15_c [1, 1, 0, 1, 0] (fin Try.prog Try.f15))))) env H := by kernel_rfl
  have e0 : (fun env H => aloopK (acodeK S Try.prog C n 30 (cAt f15_c [1, 1, 0, 1, 0, 0, 1, 0, 0, 1, 0, 0])) n env H (kAt S Try.prog C n 30 (cAt f15_c [1, 1, 0, 1, 0, 0]) [1, 0, 0, 1, 0] (onNormal (fun env' H' => (f15_L0 S C n m) (env' 0) (env' 3) H') (kAt S Try.prog C n 30 f15_c [1, 1, 0, 1, 0] (fin Try.prog Try.f15))))) = (fun env H => f15_L1 S C n (f15_L0 S C n m) n (env 0) (env 3) (env 4) H) := by funext env H; exact f15_L1_eq S C n (f15_L0 S C n m) n env H
  rw [e0] at h1
  exact h1.trans (by kernel_rfl)


noncomputable def f15 (S : Seam (Value × Heap)) (C : CallF) (n : Nat) (x0 : Value) (H : Heap) : Option (Value × Heap) :=
 S.b (up (lenS x0) H) fun y1 H2 =>
 S.b (up (binB Try.prog .gtr 3 y1 (.int .i64 1000)) H2) fun y3 H4 =>
 S.i y3
 (some ((.int .i64 5), H4))
 (f15_L0 S C n n x0 (.int .i64 0) H4)

noncomputable def f15G (S : Seam (Value × Heap)) (C : CallF) (n : Nat) (P0 : Env → Heap → Option (Value × Heap)) (x0 : Value) (H : Heap) : Option (Value × Heap) :=
 S.b (up (lenS x0) H) fun y40 H41 =>
 S.b (up (binB Try.prog .gtr 3 y40 (.int .i64 1000)) H41) fun y42 H43 =>
 S.i y42
 (some ((.int .i64 5), H43))
 (P0 (putE 30 (putE 30 (putE 30 (putE 30 (putE 30 (env0 [x0]) (some 2) (.int .i64 0)) (some 5) x0) (some 6) y40) (some 7) y42) (some 3) (.int .i64 0)) H43)

theorem f15_main (S : Seam (Value × Heap)) (C : CallF) (n : Nat) (x0 : Value) (H : Heap) : acodeK S Try.prog C n 30 f15_c (env0 [x0]) H (fin Try.prog Try.f15) = f15 S C n x0 H := by
  have h1 : acodeK S Try.prog C n 30 f15_c (env0 [x0]) H (fin Try.prog Try.f15) = f15G S C n (fun env H => aloopK (acodeK S Try.prog C n 30 (cAt f15_c [1, 1, 0, 1, 0, 0])) n env H (kAt S Try.prog C n 30 f15_c [1, 1, 0, 1, 0] (fin Try.prog Try.f15))) x0 H := by kernel_rfl
  have e0 : (fun env H => aloopK (acodeK S Try.prog C n 30 (cAt f15_c [1, 1, 0, 1, 0, 0])) n env H (kAt S Try.prog C n 30 f15_c [1, 1, 0, 1, 0] (fin Try.prog Try.f15))) = (fun env H => f15_L0 S C n n (env 0) (env 3) H) := by funext env H; exact f15_L0_eq S C n n env H
  rw [e0] at h1
  exact h1.trans (by kernel_rfl)


theorem f15_eq {gl : Bool} {E : Ext} (hE : E 15 = none) (n : Nat) (x0 : Value) (H : Heap) : acall Try.prog gl E (n + 1) 15 [x0] H = f15 real (acall Try.prog gl E n) n x0 H :=
  (acall_eq (N := 30) Try.func15 (by kernel_rfl) (by kernel_rfl) hE (okgl f15_c (by kernel_rfl)) (by kernel_rfl)).trans (f15_main real _ n x0 H)

/-! incunable/incunableref16.find -/
noncomputable def f16_c : Code := (Try.f16.body).getD .skip

noncomputable def f16_L0 (S : Seam (Value × Heap)) (C : CallF) (n : Nat) : Nat → Value → Value → Value → Heap → Option (Value × Heap)
 | 0, _, _, _, _ => none
 | m + 1, y1, y2, y3, H4 =>
   S.b (up (lenS y1) H4) fun y5 H6 =>
   S.b (up (binB Try.prog .lss 3 y3 y5) H6) fun y7 H8 =>
   S.i y7
   (S.b (up (iAddrS 2 y1 y3) H8) fun y9 H10 =>
    S.b (up (fAddr 0 y9) H10) fun y11 H12 =>
    S.b (ldC y11 H12) fun y13 H14 =>
    S.b (up (binB Try.prog .eql 9 y13 y2) H14) fun y15 H16 =>
    S.i y15
    (some (y3, H16))
    (S.b (up (binB Try.prog .add 3 y3 (.int .i64 1)) H16) fun y17 H18 =>
     f16_L0 S C n m y1 y2 y17 H18))
   (some ((.int .i64 (-1)), H8))

theorem f16_L0_eq (S : Seam (Value × Heap)) (C : CallF) (n : Nat) : ∀ (m : Nat) (env : Env) (H : Heap), aloopK (acodeK S Try.prog C n 20 (cAt f16_c [1, 0, 1, 0, 0])) m env H (kAt S Try.prog C n 20 f16_c [1, 0, 1, 0] (fin Try.prog Try.f16)) = f16_L0 S C n m (env 0) (env 1) (env 5) H := by
  intro m env H
  refine aloopK_eq (L := fun m env H => f16_L0 S C n m (env 0) (env 1) (env 5) H) (fun env H => rfl) (fun m env H => ?_) m env H
  kernel_rfl


noncomputable def f16 (S : Seam (Value × Heap)) (C : CallF) (n : Nat) (x0 : Value) (x1 : Value) (H : Heap) : Option (Value × Heap) :=
 f16_L0 S C n n x0 x1 (.int .i64 0) H

noncomputable def f16G (S : Seam (Value × Heap)) (C : CallF) (n : Nat) (P0 : Env → Heap → Option (Value × Heap)) (x0 : Value) (x1 : Value) (H : Heap) : Option (Value × Heap) :=
 P0 (putE 20 (putE 20 (env0 [x0, x1]) (some 4) (.int .i64 0)) (some 5) (.int .i64 0)) H

theorem f16_main (S : Seam (Value × Heap)) (C : CallF) (n : Nat) (x0 : Value) (x1 : Value) (H : Heap) : acodeK S Try.prog C n 20 f16_c (env0 [x0, x1]) H (fin Try.prog Try.f16) = f16 S C n x0 x1 H := by
  have h1 : acodeK S Try.prog C n 20 f16_c (env0 [x0, x1]) H (fin Try.prog Try.f16) = f16G S C n (fun env H => aloopK (acodeK S Try.prog C n 20 (cAt f16_c [1, 0, 1, 0, 0])) n env H (kAt S Try.prog C n 20 f16_c [1, 0, 1, 0] (fin Try.prog Try.f16))) x0 x1 H := by kernel_rfl
  have e0 : (fun env H => aloopK (acodeK S Try.prog C n 20 (cAt f16_c [1, 0, 1, 0, 0])) n env H (kAt S Try.prog C n 20 f16_c [1, 0, 1, 0] (fin Try.prog Try.f16))) = (fun env H => f16_L0 S C n n (env 0) (env 1) (env 5) H) := by funext env H; exact f16_L0_eq S C n n env H
  rw [e0] at h1
  exact h1.trans (by kernel_rfl)


theorem f16_eq {gl : Bool} {E : Ext} (hE : E 16 = none) (n : Nat) (x0 : Value) (x1 : Value) (H : Heap) : acall Try.prog gl E (n + 1) 16 [x0, x1] H = f16 real (acall Try.prog gl E n) n x0 x1 H :=
  (acall_eq (N := 20) Try.func16 (by kernel_rfl) (by kernel_rfl) hE (okgl f16_c (by kernel_rfl)) (by kernel_rfl)).trans (f16_main real _ n x0 x1 H)

/-! (*incunable/incunableref16.walk).through -/
noncomputable def f17_c : Code := (Try.f17.body).getD .skip

noncomputable def f17_J1 (S : Seam (Value × Heap)) (C : CallF) (n : Nat) (R0 : Value→Value→Value→Heap→Option (Value × Heap)) (y129 y130 y131 : Value) (H132 : Heap) : Option (Value × Heap) :=
 S.b (up (binB Try.prog .add 3 y131 (.int .i64 1)) H132) fun y133 H134 =>
 R0 y129 y130 y133 H134

noncomputable def f17_L0 (S : Seam (Value × Heap)) (C : CallF) (n : Nat) : Nat → Value → Value → Value → Heap → Option (Value × Heap)
 | 0, _, _, _, _ => none
 | m + 1, y53, y54, y55, H56 =>
   S.b (nilC y53 H56) fun y57 H58 =>
   S.b (up (fAddr 0 y57) H58) fun y59 H60 =>
   S.b (ldC y59 H60) fun y61 H62 =>
   S.b (up (iAddrS 2 y61 y54) H62) fun y63 H64 =>
   S.b (up (fAddr 1 y63) H64) fun y65 H66 =>
   S.b (ldC y65 H66) fun y67 H68 =>
   S.b (up (lenS y67) H68) fun y69 H70 =>
   S.b (up (binB Try.prog .lss 3 y55 y69) H70) fun y71 H72 =>
   S.b (gd (wd y71 true) (some (y53, H72)) H72) fun y73 H74 =>
   S.b (gd (wd y71 true) (nilC y73 H74) H74) fun y75 H76 =>
   S.b (gd (wd y71 true) (up (fAddr 6 y75) H76) H76) fun y77 H78 =>
   S.b (gd (wd y71 true) (ldC y77 H78) H78) fun y79 H80 =>
   S.b (gd (wd y71 true) (up (binB Try.prog .eql 26 y79 (.int .i64 0)) H80) H80) fun y81 H82 =>
   S.b (pickV y71 y81 (.bool false) H82) fun y83 H84 =>
   S.i y83
   (S.b (nilC y53 H84) fun y85 H86 =>
    S.b (up (fAddr 0 y85) H86) fun y87 H88 =>
    S.b (ldC y87 H88) fun y89 H90 =>
    S.b (up (iAddrS 2 y89 y54) H90) fun y91 H92 =>
    S.b (up (fAddr 1 y91) H92) fun y93 H94 =>
    S.b (ldC y93 H94) fun y95 H96 =>
    S.b (up (iAddrS 1 y95 y55) H96) fun y97 H98 =>
    S.b (ldC y97 H98) fun y99 H100 =>
    S.b (nilC y53 H100) fun y101 H102 =>
    S.b (up (fAddr 0 y101) H102) fun y103 H104 =>
    S.b (ldC y103 H104) fun y105 H106 =>
    S.b (C 16 [y105, y99] H106) fun y107 H108 =>
    S.b (up (binB Try.prog .lss 3 y107 (.int .i64 0)) H108) fun y109 H110 =>
    S.i y109
    (S.b (nilC y53 H110) fun y111 H112 =>
     S.b (up (fAddr 5 y111) H112) fun y113 H114 =>
     S.b (stV 1 y113 y99 H114) fun _ H115 =>
     S.b (nilC y53 H115) fun y116 H117 =>
     S.b (up (fAddr 6 y116) H117) fun y118 H119 =>
     S.b (stV 1 y118 (.int .i64 160) H119) fun _ H120 =>
     f17_J1 S C n (f17_L0 S C n m) y53 y54 y55 H120)
    (S.b (nilC y53 H110) fun y135 H136 =>
     S.b (up (fAddr 1 y135) H136) fun y137 H138 =>
     S.b (ldC y137 H138) fun y139 H140 =>
     S.b (up (iAddrS 1 y139 y107) H140) fun y141 H142 =>
     S.b (ldC y141 H142) fun y143 H144 =>
     S.b (gd (wd y143 true) (some (y53, H144)) H144) fun y145 H146 =>
     S.b (gd (wd y143 true) (nilC y145 H146) H146) fun y147 H148 =>
     S.b (gd (wd y143 true) (up (fAddr 2 y147) H148) H148) fun y149 H150 =>
     S.b (gd (wd y143 true) (ldC y149 H150) H150) fun y151 H152 =>
     S.b (gd (wd y143 true) (some (y107, H152)) H152) fun y153 H154 =>
     S.b (gd (wd y143 true) (up (iAddrS 1 y151 y153) H154) H154) fun y155 H156 =>
     S.b (gd (wd y143 true) (ldC y155 H156) H156) fun y157 H158 =>
     S.b (gd (wd y143 true) (up (unB .not y157) H158) H158) fun y159 H160 =>
     S.b (pickV y143 y159 (.bool false) H160) fun y161 H162 =>
     S.i y161
     (S.b (nilC y53 H162) fun y163 H164 =>
      S.b (up (fAddr 5 y163) H164) fun y165 H166 =>
      S.b (stV 1 y165 y99 H166) fun _ H167 =>
      S.b (nilC y53 H167) fun y168 H169 =>
      S.b (up (fAddr 6 y168) H169) fun y170 H171 =>
      S.b (stV 1 y170 (.int .i64 161) H171) fun _ H172 =>
      f17_J1 S C n (f17_L0 S C n m) y53 y54 y55 H172)
     (S.b (nilC y53 H162) fun y173 H174 =>
      S.b (up (fAddr 2 y173) H174) fun y175 H176 =>
      S.b (ldC y175 H176) fun y177 H178 =>
      S.b (up (iAddrS 1 y177 y107) H178) fun y179 H180 =>
      S.b (ldC y179 H180) fun y181 H182 =>
      S.b (up (unB .not y181) H182) fun y183 H184 =>
      S.i y183
      (S.b (C 17 [y53, y107] H184) fun y185 H186 =>
       f17_J1 S C n (f17_L0 S C n m) y53 y54 y55 H186)
      (f17_J1 S C n (f17_L0 S C n m) y53 y54 y55 H184))))
   (S.b (nilC y53 H84) fun y187 H188 =>
    S.b (up (fAddr 6 y187) H188) fun y189 H190 =>
    S.b (ldC y189 H190) fun y191 H192 =>
    S.b (up (binB Try.prog .eql 26 y191 (.int .i64 0)) H192) fun y193 H194 =>
    S.i y193
    (S.b (nilC y53 H194) fun y195 H196 =>
     S.b (up (fAddr 2 y195) H196) fun y197 H198 =>
     S.b (ldC y197 H198) fun y199 H200 =>
     S.b (up (iAddrS 1 y199 y54) H200) fun y201 H202 =>
     S.b (stV 1 y201 (.bool true) H202) fun _ H203 =>
     S.b (nilC y53 H203) fun y204 H205 =>
     S.b (up (fAddr 4 y204) H205) fun y206 H207 =>
     S.b (ldC y206 H207) fun y208 H209 =>
     S.b (bldS 1 1 [(.int .i64 0)] [(0, 1, y54)] H209) fun y210 H211 =>
     S.b (app 1 8 y208 y210 H211) fun y212 H213 =>
     S.b (nilC y53 H213) fun y214 H215 =>
     S.b (up (fAddr 4 y214) H215) fun y216 H217 =>
     S.b (stV 1 y216 y212 H217) fun _ H218 =>
     some (.tuple #[], H218))
    (some (.tuple #[], H194)))

theorem f17_L0_eq (S : Seam (Value × Heap)) (C : CallF) (n : Nat) : ∀ (m : Nat) (env : Env) (H : Heap), aloopK (acodeK S Try.prog C n 145 (cAt f17_c [1, 1, 1, 0, 1, 0, 0])) m env H (kAt S Try.prog C n 145 f17_c [1, 1, 1, 0, 1, 0] (fin Try.prog Try.f17)) = f17_L0 S C n m (env 0) (env 1) (env 4) H := by
  intro m env H
  refine aloopK_eq (L := fun m env H => f17_L0 S C n m (env 0) (env 1) (env 4) H) (fun env H => rfl) (fun m env H => ?_) m env H
  kernel_rfl


noncomputable def f17 (S : Seam (Value × Heap)) (C : CallF) (n : Nat) (x0 : Value) (x1 : Value) (H : Heap) : Option (Value × Heap) :=
 S.b (nilC x0 H) fun y1 H2 =>
 S.b (up (fAddr 3 y1) H2) fun y3 H4 =>
 S.b (ldC y3 H4) fun y5 H6 =>
 S.b (up (binB Try.prog .geq 3 y5 (.int .i64 32)) H6) fun y7 H8 =>
 S.i y7
 (S.b (nilC x0 H8) fun y9 H10 =>
  S.b (up (fAddr 0 y9) H10) fun y11 H12 =>
  S.b (ldC y11 H12) fun y13 H14 =>
  S.b (up (iAddrS 2 y13 x1) H14) fun y15 H16 =>
  S.b (up (fAddr 0 y15) H16) fun y17 H18 =>
  S.b (ldC y17 H18) fun y19 H20 =>
  S.b (nilC x0 H20) fun y21 H22 =>
  S.b (up (fAddr 5 y21) H22) fun y23 H24 =>
  S.b (stV 1 y23 y19 H24) fun _ H25 =>
  S.b (nilC x0 H25) fun y26 H27 =>
  S.b (up (fAddr 6 y26) H27) fun y28 H29 =>
  S.b (stV 1 y28 (.int .i64 5) H29) fun _ H30 =>
  some (.tuple #[], H30))
 (S.b (nilC x0 H8) fun y31 H32 =>
  S.b (up (fAddr 3 y31) H32) fun y33 H34 =>
  S.b (ldC y33 H34) fun y35 H36 =>
  S.b (up (binB Try.prog .add 3 y35 (.int .i64 1)) H36) fun y37 H38 =>
  S.b (nilC x0 H38) fun y39 H40 =>
  S.b (up (fAddr 3 y39) H40) fun y41 H42 =>
  S.b (stV 1 y41 y37 H42) fun _ H43 =>
  S.b (nilC x0 H43) fun y44 H45 =>
  S.b (up (fAddr 1 y44) H45) fun y46 H47 =>
  S.b (ldC y46 H47) fun y48 H49 =>
  S.b (up (iAddrS 1 y48 x1) H49) fun y50 H51 =>
  S.b (stV 1 y50 (.bool true) H51) fun _ H52 =>
  f17_L0 S C n n x0 x1 (.int .i64 0) H52)

noncomputable def f17G (S : Seam (Value × Heap)) (C : CallF) (n : Nat) (P0 : Env → Heap → Option (Value × Heap)) (x0 : Value) (x1 : Value) (H : Heap) : Option (Value × Heap) :=
 S.b (nilC x0 H) fun y219 H220 =>
 S.b (up (fAddr 3 y219) H220) fun y221 H222 =>
 S.b (ldC y221 H222) fun y223 H224 =>
 S.b (up (binB Try.prog .geq 3 y223 (.int .i64 32)) H224) fun y225 H226 =>
 S.i y225
 (S.b (nilC x0 H226) fun y227 H228 =>
  S.b (up (fAddr 0 y227) H228) fun y229 H230 =>
  S.b (ldC y229 H230) fun y231 H232 =>
  S.b (up (iAddrS 2 y231 x1) H232) fun y233 H234 =>
  S.b (up (fAddr 0 y233) H234) fun y235 H236 =>
  S.b (ldC y235 H236) fun y237 H238 =>
  S.b (nilC x0 H238) fun y239 H240 =>
  S.b (up (fAddr 5 y239) H240) fun y241 H242 =>
  S.b (stV 1 y241 y237 H242) fun u243 H244 =>
  S.b (nilC x0 H244) fun y245 H246 =>
  S.b (up (fAddr 6 y245) H246) fun y247 H248 =>
  S.b (stV 1 y247 (.int .i64 5) H248) fun u249 H250 =>
  some (.tuple #[], H250))
 (S.b (nilC x0 H226) fun y251 H252 =>
  S.b (up (fAddr 3 y251) H252) fun y253 H254 =>
  S.b (ldC y253 H254) fun y255 H256 =>
  S.b (up (binB Try.prog .add 3 y255 (.int .i64 1)) H256) fun y257 H258 =>
  S.b (nilC x0 H258) fun y259 H260 =>
  S.b (up (fAddr 3 y259) H260) fun y261 H262 =>
  S.b (stV 1 y261 y257 H262) fun u263 H264 =>
  S.b (nilC x0 H264) fun y265 H266 =>
  S.b (up (fAddr 1 y265) H266) fun y267 H268 =>
  S.b (ldC y267 H268) fun y269 H270 =>
  S.b (up (iAddrS 1 y269 x1) H270) fun y271 H272 =>
  S.b (stV 1 y271 (.bool true) H272) fun u273 H274 =>
  P0 (putE 145 (putE 145 (putE 145 (putE 145 (putE 145 (putE 145 (putE 145 (putE 145 (putE 145 (putE 145 (putE 145 (putE 145 (putE 145 (putE 145 (putE 145 (putE 145 (putE 145 (putE 145 (putE 145 (putE 145 (putE 145 (putE 145 (env0 [x0, x1]) (some 7) x0) (some 8) y219) (some 9) y221) (some 10) y223) (some 11) y225) (some 26) x0) (some 27) x0) (some 28) y251) (some 29) y253) (some 30) y255) (some 31) y257) (some 32) y259) (some 33) y261) none u263) (some 34) x0) (some 35) y265) (some 36) y267) (some 37) y269) (some 38) x1) (some 39) y271) none u273) (some 4) (.int .i64 0)) H274)

theorem f17_main (S : Seam (Value × Heap)) (C : CallF) (n : Nat) (x0 : Value) (x1 : Value) (H : Heap) : acodeK S Try.prog C n 145 f17_c (env0 [x0, x1]) H (fin Try.prog Try.f17) = f17 S C n x0 x1 H := by
  have h1 : acodeK S Try.prog C n 145 f17_c (env0 [x0, x1]) H (fin Try.prog Try.f17) = f17G S C n (fun env H => aloopK (acodeK S Try.prog C n 145 (cAt f17_c [1, 1, 1, 0, 1, 0, 0])) n env H (kAt S Try.prog C n 145 f17_c [1, 1, 1, 0, 1, 0] (fin Try.prog Try.f17))) x0 x1 H := by kernel_rfl
  have e0 : (fun env H => aloopK (acodeK S Try.prog C n 145 (cAt f17_c [1, 1, 1, 0, 1, 0, 0])) n env H (kAt S Try.prog C n 145 f17_c [1, 1, 1, 0, 1, 0] (fin Try.prog Try.f17))) = (fun env H => f17_L0 S C n n (env 0) (env 1) (env 4) H) := by funext env H; exact f17_L0_eq S C n n env H
  rw [e0] at h1
  exact h1.trans (by kernel_rfl)


theorem f17_eq {gl : Bool} {E : Ext} (hE : E 17 = none) (n : Nat) (x0 : Value) (x1 : Value) (H : Heap) : acall Try.prog gl E (n + 1) 17 [x0, x1] H = f17 real (acall Try.prog gl E n) n x0 x1 H :=
  (acall_eq (N := 145) Try.func17 (by kernel_rfl) (by kernel_rfl) hE (okgl f17_c (by kernel_rfl)) (by kernel_rfl)).trans (f17_main real _ n x0 x1 H)

/-! incunable/incunablelaw16.chapter -/
noncomputable def f18_c : Code := (Try.f18.body).getD .skip

noncomputable def f18 (S : Seam (Value × Heap)) (C : CallF) (n : Nat) (H : Heap) : Option (Value × Heap) :=
 S.b (bldS 1 2 [(.string ⟨#[]⟩)] [(0, 1, (.string ⟨#[98]⟩)), (1, 1, (.string ⟨#[99]⟩))] H) fun y1 H2 =>
 S.b (bld [(.string ⟨#[]⟩), (.slice none 0 0)] [(0, 1, (.string ⟨#[97]⟩)), (1, 1, y1)] H2) fun y3 H4 =>
 S.b (bldS 1 1 [(.string ⟨#[]⟩)] [(0, 1, (.string ⟨#[100]⟩))] H4) fun y5 H6 =>
 S.b (bld [(.string ⟨#[]⟩), (.slice none 0 0)] [(0, 1, (.string ⟨#[98]⟩)), (1, 1, y5)] H6) fun y7 H8 =>
 S.b (bldS 1 1 [(.string ⟨#[]⟩)] [(0, 1, (.string ⟨#[100]⟩))] H8) fun y9 H10 =>
 S.b (bld [(.string ⟨#[]⟩), (.slice none 0 0)] [(0, 1, (.string ⟨#[99]⟩)), (1, 1, y9)] H10) fun y11 H12 =>
 S.b (bld [(.string ⟨#[]⟩), (.slice none 0 0)] [(0, 1, (.string ⟨#[100]⟩))] H12) fun y13 H14 =>
 S.b (bldS 1 1 [(.string ⟨#[]⟩)] [(0, 1, (.string ⟨#[101]⟩))] H14) fun y15 H16 =>
 S.b (bld [(.string ⟨#[]⟩), (.slice none 0 0)] [(0, 1, (.string ⟨#[101]⟩)), (1, 1, y15)] H16) fun y17 H18 =>
 S.b (bldS 1 1 [(.string ⟨#[]⟩)] [(0, 1, (.string ⟨#[120]⟩))] H18) fun y19 H20 =>
 S.b (bld [(.string ⟨#[]⟩), (.slice none 0 0)] [(0, 1, (.string ⟨#[102]⟩)), (1, 1, y19)] H20) fun y21 H22 =>
 S.b (bldS 2 6 [(.string ⟨#[]⟩), (.slice none 0 0)] [(0, 2, y3), (2, 2, y7), (4, 2, y11), (6, 2, y13), (8, 2, y17), (10, 2, y21)] H22) fun y23 H24 =>
 some (y23, H24)

theorem f18_main (S : Seam (Value × Heap)) (C : CallF) (n : Nat) (H : Heap) : acodeK S Try.prog C n 13 f18_c (env0 []) H (fin Try.prog Try.f18) = f18 S C n H := by
  kernel_rfl


theorem f18_eq {gl : Bool} {E : Ext} (hE : E 18 = none) (n : Nat) (H : Heap) : acall Try.prog gl E (n + 1) 18 [] H = f18 real (acall Try.prog gl E n) n H :=
  (acall_eq (N := 13) Try.func18 (by kernel_rfl) (by kernel_rfl) hE (okgl f18_c (by kernel_rfl)) (by kernel_rfl)).trans (f18_main real _ n H)

/-! incunable/incunablelaw16.fails -/
noncomputable def f19_c : Code := (Try.f19.body).getD .skip

noncomputable def f19 (S : Seam (Value × Heap)) (C : CallF) (n : Nat) (x0 : Value) (x1 : Value) (x2 : Value) (H : Heap) : Option (Value × Heap) :=
 S.b (C 18 [] H) fun y1 H2 =>
 S.b (C 6 [x0, y1] H2) fun y3 H4 =>
 S.b (extr 0 y3 H4) fun y5 H6 =>
 S.b (extr 1 y3 H6) fun y7 H8 =>
 S.b (extr 2 y3 H8) fun y9 H10 =>
 S.b (up (lenS y5) H10) fun y11 H12 =>
 S.b (up (binB Try.prog .eql 3 y11 (.int .i64 0)) H12) fun y13 H14 =>
 S.b (gd (wd y13 true) (some (y7, H14)) H14) fun y15 H16 =>
 S.b (gd (wd y13 true) (some (x1, H16)) H16) fun y17 H18 =>
 S.b (gd (wd y13 true) (up (binB Try.prog .eql 9 y15 y17) H18) H18) fun y19 H20 =>
 S.b (pickV y13 y19 (.bool false) H20) fun y21 H22 =>
 S.b (gd (wd y21 true) (some (y9, H22)) H22) fun y23 H24 =>
 S.b (gd (wd y21 true) (some (x2, H24)) H24) fun y25 H26 =>
 S.b (gd (wd y21 true) (up (binB Try.prog .eql 26 y23 y25) H26) H26) fun y27 H28 =>
 S.b (pickV y21 y27 (.bool false) H28) fun y29 H30 =>
 some (y29, H30)

theorem f19_main (S : Seam (Value × Heap)) (C : CallF) (n : Nat) (x0 : Value) (x1 : Value) (x2 : Value) (H : Heap) : acodeK S Try.prog C n 30 f19_c (env0 [x0, x1, x2]) H (fin Try.prog Try.f19) = f19 S C n x0 x1 x2 H := by
  kernel_rfl


theorem f19_eq {gl : Bool} {E : Ext} (hE : E 19 = none) (n : Nat) (x0 : Value) (x1 : Value) (x2 : Value) (H : Heap) : acall Try.prog gl E (n + 1) 19 [x0, x1, x2] H = f19 real (acall Try.prog gl E n) n x0 x1 x2 H :=
  (acall_eq (N := 30) Try.func19 (by kernel_rfl) (by kernel_rfl) hE (okgl f19_c (by kernel_rfl)) (by kernel_rfl)).trans (f19_main real _ n x0 x1 x2 H)

/-! (*incunable/imports.walk).stop -/
noncomputable def f21_c : Code := (Try.f21.body).getD .skip

noncomputable def f21 (S : Seam (Value × Heap)) (C : CallF) (n : Nat) (x0 : Value) (x1 : Value) (x2 : Value) (H : Heap) : Option (Value × Heap) :=
 S.b (nilC x0 H) fun y1 H2 =>
 S.b (up (fAddr 5 y1) H2) fun y3 H4 =>
 S.b (stV 1 y3 x1 H4) fun _ H5 =>
 some (x2, H5)

theorem f21_main (S : Seam (Value × Heap)) (C : CallF) (n : Nat) (x0 : Value) (x1 : Value) (x2 : Value) (H : Heap) : acodeK S Try.prog C n 12 f21_c (env0 [x0, x1, x2]) H (fin Try.prog Try.f21) = f21 S C n x0 x1 x2 H := by
  kernel_rfl


theorem f21_eq {gl : Bool} {E : Ext} (hE : E 21 = none) (n : Nat) (x0 : Value) (x1 : Value) (x2 : Value) (H : Heap) : acall Try.prog gl E (n + 1) 21 [x0, x1, x2] H = f21 real (acall Try.prog gl E n) n x0 x1 x2 H :=
  (acall_eq (N := 12) Try.func21 (by kernel_rfl) (by kernel_rfl) hE (okgl f21_c (by kernel_rfl)) (by kernel_rfl)).trans (f21_main real _ n x0 x1 x2 H)

end Go.Eng
