/- The functions, printed. -/
import Derived.Test.YtmajmmknpajcgaaProg
import Derived.Test.YtmajmmknpajcgaaEnhT
import Derived.KernelRfl
set_option linter.unusedVariables false
set_option maxRecDepth 100000
namespace Go.Eng
open Go Go.Proofs

/-! incunable/incunablelaw04.ShaRoots -/
noncomputable def f3_c : Code := (Try.f3.body).getD .skip

noncomputable def f3 (S : Seam (Value × Heap)) (C : CallF) (n : Nat) (x0 : Value) (x1 : Value) (H : Heap) : Option (Value × Heap) :=
 S.b (C 11 [x0, x1] H) fun y1 H2 =>
 S.b (extr 0 y1 H2) fun y3 H4 =>
 S.b (extr 1 y1 H4) fun y5 H6 =>
 S.b (C 12 [x0, x1] H6) fun y7 H8 =>
 S.b (extr 0 y7 H8) fun y9 H10 =>
 S.b (extr 1 y7 H10) fun y11 H12 =>
 S.b (up (binB Try.prog .eql 22 y3 y9) H12) fun y13 H14 =>
 S.b (gd (wd y13 true) (some (y5, H14)) H14) fun y15 H16 =>
 S.b (gd (wd y13 true) (some (y11, H16)) H16) fun y17 H18 =>
 S.b (gd (wd y13 true) (up (binB Try.prog .eql 23 y15 y17) H18) H18) fun y19 H20 =>
 S.b (pickV y13 y19 (.bool false) H20) fun y21 H22 =>
 S.b (gd (wd y21 true) (C 13 [] H22) H22) fun y23 H24 =>
 S.b (pickV y21 y23 (.bool false) H24) fun y25 H26 =>
 some (y25, H26)

theorem f3_main (S : Seam (Value × Heap)) (C : CallF) (n : Nat) (x0 : Value) (x1 : Value) (H : Heap) : acodeK S Try.prog C n 32 f3_c (env0 [x0, x1]) H (fin Try.prog Try.f3) = f3 S C n x0 x1 H := by
  kernel_rfl


theorem f3_eq {gl : Bool} {E : Ext} (hE : E 3 = none) (n : Nat) (x0 : Value) (x1 : Value) (H : Heap) : acall Try.prog gl E (n + 1) 3 [x0, x1] H = f3 real (acall Try.prog gl E n) n x0 x1 H :=
  (acall_eq (N := 32) Try.func3 (by kernel_rfl) (by kernel_rfl) hE (okgl f3_c (by kernel_rfl)) (by kernel_rfl)).trans (f3_main real _ n x0 x1 H)

/-! incunable/incunablelaw04.ShaBlocks -/
noncomputable def f4_c : Code := (Try.f4.body).getD .skip

noncomputable def f4 (S : Seam (Value × Heap)) (C : CallF) (n : Nat) (x0 : Value) (x1 : Value) (H : Heap) : Option (Value × Heap) :=
 S.b (newV (Value.cells x0).toList H) fun y1 H2 =>
 S.b (C 14 [x1] H2) fun y3 H4 =>
 S.b (ldA 8 y1 H4) fun y5 H6 =>
 S.b (C 15 [y5, y3] H6) fun y7 H8 =>
 S.b (extr 0 y7 H8) fun y9 H10 =>
 S.b (extr 1 y7 H10) fun y11 H12 =>
 S.b (newV [(.int .u32 0), (.int .u32 0), (.int .u32 0), (.int .u32 0), (.int .u32 0), (.int .u32 0), (.int .u32 0), (.int .u32 0)] H12) fun y13 H14 =>
 S.b (stV 8 y13 y9 H14) fun _ H15 =>
 S.b (ldA 8 y1 H15) fun y16 H17 =>
 S.b (C 16 [y16, x1] H17) fun y18 H19 =>
 S.b (extr 0 y18 H19) fun y20 H21 =>
 S.b (extr 1 y18 H21) fun y22 H23 =>
 S.b (newV [(.int .u32 0), (.int .u32 0), (.int .u32 0), (.int .u32 0), (.int .u32 0), (.int .u32 0), (.int .u32 0), (.int .u32 0)] H23) fun y24 H25 =>
 S.b (stV 8 y24 y20 H25) fun _ H26 =>
 S.b (ldA 8 y13 H26) fun y27 H28 =>
 S.b (ldA 8 y24 H28) fun y29 H30 =>
 S.b (up (binB Try.prog .eql 28 y27 y29) H30) fun y31 H32 =>
 S.b (gd (wd y31 true) (some (y11, H32)) H32) fun y33 H34 =>
 S.b (gd (wd y31 true) (some (y22, H34)) H34) fun y35 H36 =>
 S.b (gd (wd y31 true) (up (binB Try.prog .eql 23 y33 y35) H36) H36) fun y37 H38 =>
 S.b (pickV y31 y37 (.bool false) H38) fun y39 H40 =>
 S.b (gd (wd y39 true) (some (y3, H40)) H40) fun y41 H42 =>
 S.b (gd (wd y39 true) (some (x1, H42)) H42) fun y43 H44 =>
 S.b (gd (wd y39 true) (C 17 [y41, y43] H44) H44) fun y45 H46 =>
 S.b (pickV y39 y45 (.bool false) H46) fun y47 H48 =>
 S.b (gd (wd y47 true) (C 13 [] H48) H48) fun y49 H50 =>
 S.b (pickV y47 y49 (.bool false) H50) fun y51 H52 =>
 some (y51, H52)

theorem f4_main (S : Seam (Value × Heap)) (C : CallF) (n : Nat) (x0 : Value) (x1 : Value) (H : Heap) : acodeK S Try.prog C n 40 f4_c (env0 [x0, x1]) H (fin Try.prog Try.f4) = f4 S C n x0 x1 H := by
  kernel_rfl


theorem f4_eq {gl : Bool} {E : Ext} (hE : E 4 = none) (n : Nat) (x0 : Value) (x1 : Value) (H : Heap) : acall Try.prog gl E (n + 1) 4 [x0, x1] H = f4 real (acall Try.prog gl E n) n x0 x1 H :=
  (acall_eq (N := 40) Try.func4 (by kernel_rfl) (by kernel_rfl) hE (okgl f4_c (by kernel_rfl)) (by kernel_rfl)).trans (f4_main real _ n x0 x1 H)

/-! incunable/incunablelaw04.ShaDigests -/
noncomputable def f5_c : Code := (Try.f5.body).getD .skip

noncomputable def f5 (S : Seam (Value × Heap)) (C : CallF) (n : Nat) (x0 : Value) (H : Heap) : Option (Value × Heap) :=
 S.b (up (lenS x0) H) fun y1 H2 =>
 S.b (minV y1 (.int .i64 3000) H2) fun y3 H4 =>
 S.b (up (slcS 1 x0 none (some y3) none) H4) fun y5 H6 =>
 S.b (C 14 [y5] H6) fun y7 H8 =>
 S.b (C 18 [y7] H8) fun y9 H10 =>
 S.b (C 19 [y5] H10) fun y11 H12 =>
 S.b (up (binB Try.prog .eql 35 y9 y11) H12) fun y13 H14 =>
 S.b (gd (wd y13 true) (some (y7, H14)) H14) fun y15 H16 =>
 S.b (gd (wd y13 true) (some (y5, H16)) H16) fun y17 H18 =>
 S.b (gd (wd y13 true) (C 17 [y15, y17] H18) H18) fun y19 H20 =>
 S.b (pickV y13 y19 (.bool false) H20) fun y21 H22 =>
 S.b (gd (wd y21 true) (C 13 [] H22) H22) fun y23 H24 =>
 S.b (pickV y21 y23 (.bool false) H24) fun y25 H26 =>
 some (y25, H26)

theorem f5_main (S : Seam (Value × Heap)) (C : CallF) (n : Nat) (x0 : Value) (H : Heap) : acodeK S Try.prog C n 24 f5_c (env0 [x0]) H (fin Try.prog Try.f5) = f5 S C n x0 H := by
  kernel_rfl


theorem f5_eq {gl : Bool} {E : Ext} (hE : E 5 = none) (n : Nat) (x0 : Value) (H : Heap) : acall Try.prog gl E (n + 1) 5 [x0] H = f5 real (acall Try.prog gl E n) n x0 H :=
  (acall_eq (N := 24) Try.func5 (by kernel_rfl) (by kernel_rfl) hE (okgl f5_c (by kernel_rfl)) (by kernel_rfl)).trans (f5_main real _ n x0 H)

/-! incunable/incunablelaw04.ShaChain -/
noncomputable def f6_c : Code := (Try.f6.body).getD .skip

noncomputable def f6_L0 (S : Seam (Value × Heap)) (C : CallF) (n : Nat) : Nat → Value → Value → Value → Value → Value → Heap → Option (Value × Heap)
 | 0, _, _, _, _, _, _ => none
 | m + 1, y64, y65, y66, y67, y68, H69 =>
   S.b (up (binB Try.prog .lss 3 y68 (.int .i64 32)) H69) fun y70 H71 =>
   S.i y70
   (S.b (up (iAddrA 32 1 y67 y68) H71) fun y72 H73 =>
    S.c true (S.b (ldC y72 H73) fun y74 H75 =>
    S.b (up (binB Try.prog .quo 3 y68 (.int .i64 4)) H75) fun y76 H77 =>
    S.b (up (iAddrA 8 1 y65 y76) H77) fun y78 H79 =>
    S.c true (S.b (ldC y78 H79) fun y80 H81 =>
    S.b (up (binB Try.prog .rem 3 y68 (.int .i64 4)) H81) fun y82 H83 =>
    S.b (up (binB Try.prog .mul 3 (.int .i64 8) y82) H83) fun y84 H85 =>
    S.b (up (binB Try.prog .sub 3 (.int .i64 24) y84) H85) fun y86 H87 =>
    S.b (up (binB Try.prog .shr 22 y80 y86) H87) fun y88 H89 =>
    S.b (cvI .u8 y88 H89) fun y90 H91 =>
    S.b (up (binB Try.prog .neq 5 y74 y90) H91) fun y92 H93 =>
    S.i y92
    (some ((.bool false), H93))
    (S.b (up (binB Try.prog .add 3 y68 (.int .i64 1)) H93) fun y94 H95 =>
     f6_L0 S C n m y64 y65 y66 y67 y94 H95))))
   (S.b (gd (wd y64 true) (some (y66, H71)) H71) fun y96 H97 =>
    S.b (pickV y64 y96 (.bool false) H97) fun y98 H99 =>
    S.b (gd (wd y98 true) (C 13 [] H99) H99) fun y100 H101 =>
    S.b (pickV y98 y100 (.bool false) H101) fun y102 H103 =>
    some (y102, H103))

theorem f6_L0_eq (S : Seam (Value × Heap)) (C : CallF) (n : Nat) : ∀ (m : Nat) (env : Env) (H : Heap), aloopK (acodeK S Try.prog C n 79 (cAt f6_c [1, 1, 1, 1, 1, 1, 1, 1, 0, 1, 0, 0])) m env H (kAt S Try.prog C n 79 f6_c [1, 1, 1, 1, 1, 1, 1, 1, 0, 1, 0] (fin Try.prog Try.f6)) = f6_L0 S C n m (env 8) (env 9) (env 10) (env 11) (env 12) H := by
  intro m env H
  refine aloopK_eq (L := fun m env H => f6_L0 S C n m (env 8) (env 9) (env 10) (env 11) (env 12) H) (fun env H => rfl) (fun m env H => ?_) m env H
  kernel_rfl


noncomputable def f6 (S : Seam (Value × Heap)) (C : CallF) (n : Nat) (x0 : Value) (x1 : Value) (H : Heap) : Option (Value × Heap) :=
 S.b (up (lenS x0) H) fun y1 H2 =>
 S.b (minV y1 (.int .i64 3000) H2) fun y3 H4 =>
 S.b (up (slcS 1 x0 none (some y3) none) H4) fun y5 H6 =>
 S.b (C 20 [y5] H6) fun y7 H8 =>
 S.b (up (lenS y7) H8) fun y9 H10 =>
 S.b (up (binB Try.prog .eql 3 y9 (.int .i64 0)) H10) fun y11 H12 =>
 S.b (gd (wd y11 false) (some (y7, H12)) H12) fun y13 H14 =>
 S.b (gd (wd y11 false) (up (lenS y13) H14) H14) fun y15 H16 =>
 S.b (gd (wd y11 false) (up (binB Try.prog .rem 3 y15 (.int .i64 64)) H16) H16) fun y17 H18 =>
 S.b (gd (wd y11 false) (up (binB Try.prog .neq 3 y17 (.int .i64 0)) H18) H18) fun y19 H20 =>
 S.b (pickV y11 (.bool true) y19 H20) fun y21 H22 =>
 S.i y21
 (some ((.bool false), H22))
 (S.b (up (lenS y7) H22) fun y23 H24 =>
  S.b (up (binB Try.prog .quo 3 y23 (.int .i64 64)) H24) fun y25 H26 =>
  S.b (up (binB Try.prog .add 3 y25 (.int .i64 1)) H26) fun y27 H28 =>
  S.b (C 21 [x1, y27] H28) fun y29 H30 =>
  S.b (up (binB Try.prog .mul 3 (.int .i64 64) y29) H30) fun y31 H32 =>
  S.b (C 23 [] H32) fun y33 H34 =>
  S.c true (S.b (up (slcS 1 y7 none (some y31) none) H34) fun y35 H36 =>
   S.b (C 22 [y33, y35] H36) fun y37 H38 =>
   S.c true (S.b (extr 0 y37 H38) fun y39 H40 =>
    S.b (extr 1 y37 H40) fun y41 H42 =>
    S.b (newV [(.int .u32 0), (.int .u32 0), (.int .u32 0), (.int .u32 0), (.int .u32 0), (.int .u32 0), (.int .u32 0), (.int .u32 0)] H42) fun y43 H44 =>
    S.b (stV 8 y43 y39 H44) fun _ H45 =>
    S.c true (S.c true (S.b (ldA 8 y43 H45) fun y46 H47 =>
     S.b (up (slcS 1 y7 (some y31) none none) H47) fun y48 H49 =>
     S.b (C 22 [y46, y48] H49) fun y50 H51 =>
     S.c true (S.b (extr 0 y50 H51) fun y52 H53 =>
      S.b (extr 1 y50 H53) fun y54 H55 =>
      S.b (newV [(.int .u32 0), (.int .u32 0), (.int .u32 0), (.int .u32 0), (.int .u32 0), (.int .u32 0), (.int .u32 0), (.int .u32 0)] H55) fun y56 H57 =>
      S.b (stV 8 y56 y52 H57) fun _ H58 =>
      S.c true (S.b (C 18 [y5] H58) fun y59 H60 =>
       S.b (newV (rep 32 [(.int .u8 0)]) H60) fun y61 H62 =>
       S.b (stV 32 y61 y59 H62) fun _ H63 =>
       f6_L0 S C n n y41 y56 y54 y61 (.int .i64 0) H63)))))))

noncomputable def f6G (S : Seam (Value × Heap)) (C : CallF) (n : Nat) (P0 : Env → Heap → Option (Value × Heap)) (x0 : Value) (x1 : Value) (H : Heap) : Option (Value × Heap) :=
 S.b (up (lenS x0) H) fun y104 H105 =>
 S.b (minV y104 (.int .i64 3000) H105) fun y106 H107 =>
 S.b (up (slcS 1 x0 none (some y106) none) H107) fun y108 H109 =>
 S.b (C 20 [y108] H109) fun y110 H111 =>
 S.b (up (lenS y110) H111) fun y112 H113 =>
 S.b (up (binB Try.prog .eql 3 y112 (.int .i64 0)) H113) fun y114 H115 =>
 S.b (gd (wd y114 false) (some (y110, H115)) H115) fun y116 H117 =>
 S.b (gd (wd y114 false) (up (lenS y116) H117) H117) fun y118 H119 =>
 S.b (gd (wd y114 false) (up (binB Try.prog .rem 3 y118 (.int .i64 64)) H119) H119) fun y120 H121 =>
 S.b (gd (wd y114 false) (up (binB Try.prog .neq 3 y120 (.int .i64 0)) H121) H121) fun y122 H123 =>
 S.b (pickV y114 (.bool true) y122 H123) fun y124 H125 =>
 S.i y124
 (some ((.bool false), H125))
 (S.b (up (lenS y110) H125) fun y126 H127 =>
  S.b (up (binB Try.prog .quo 3 y126 (.int .i64 64)) H127) fun y128 H129 =>
  S.b (up (binB Try.prog .add 3 y128 (.int .i64 1)) H129) fun y130 H131 =>
  S.b (C 21 [x1, y130] H131) fun y132 H133 =>
  S.b (up (binB Try.prog .mul 3 (.int .i64 64) y132) H133) fun y134 H135 =>
  S.b (C 23 [] H135) fun y136 H137 =>
  S.c true (S.b (up (slcS 1 y110 none (some y134) none) H137) fun y138 H139 =>
   S.b (C 22 [y136, y138] H139) fun y140 H141 =>
   S.c true (S.b (extr 0 y140 H141) fun y142 H143 =>
    S.b (extr 1 y140 H143) fun y144 H145 =>
    S.b (newV [(.int .u32 0), (.int .u32 0), (.int .u32 0), (.int .u32 0), (.int .u32 0), (.int .u32 0), (.int .u32 0), (.int .u32 0)] H145) fun y146 H147 =>
    S.b (stV 8 y146 y142 H147) fun u148 H149 =>
    S.c true (S.c true (S.b (ldA 8 y146 H149) fun y150 H151 =>
     S.b (up (slcS 1 y110 (some y134) none none) H151) fun y152 H153 =>
     S.b (C 22 [y150, y152] H153) fun y154 H155 =>
     S.c true (S.b (extr 0 y154 H155) fun y156 H157 =>
      S.b (extr 1 y154 H157) fun y158 H159 =>
      S.b (newV [(.int .u32 0), (.int .u32 0), (.int .u32 0), (.int .u32 0), (.int .u32 0), (.int .u32 0), (.int .u32 0), (.int .u32 0)] H159) fun y160 H161 =>
      S.b (stV 8 y160 y156 H161) fun u162 H163 =>
      S.c true (S.b (C 18 [y108] H163) fun y164 H165 =>
       S.b (newV (rep 32 [(.int .u8 0)]) H165) fun y166 H167 =>
       S.b (stV 32 y166 y164 H167) fun u168 H169 =>
       P0 (putE 79 (putE 79 (putE 79 (putE 79 (putE 79 (putE 79 (putE 79 (putE 79 (putE 79 (putE 79 (putE 79 (putE 79 (putE 79 (putE 79 (putE 79 (putE 79 (putE 79 (putE 79 (putE 79 (putE 79 (putE 79 (putE 79 (putE 79 (putE 79 (putE 79 (putE 79 (putE 79 (putE 79 (putE 79 (putE 79 (putE 79 (putE 79 (putE 79 (putE 79 (putE 79 (putE 79 (putE 79 (putE 79 (putE 79 (putE 79 (putE 79 (putE 79 (putE 79 (putE 79 (putE 79 (putE 79 (putE 79 (putE 79 (putE 79 (putE 79 (putE 79 (putE 79 (putE 79 (putE 79 (env0 [x0, x1]) (some 4) (.bool false)) (some 13) x0) (some 14) x0) (some 15) y104) (some 16) y106) (some 17) y108) (some 0) y108) (some 18) y108) (some 19) y110) (some 5) y110) (some 20) y110) (some 21) y112) (some 22) y114) (some 23) y114) (some 24) y116) (some 25) y118) (some 26) y120) (some 27) y122) (some 28) y124) (some 29) x1) (some 30) y110) (some 31) y126) (some 32) y128) (some 33) y130) (some 34) y132) (some 35) y134) (some 6) y134) (some 37) y136) (some 38) y110) (some 39) y134) (some 40) y138) (some 41) y140) (some 36) y140) (some 42) y142) (some 43) y144) (some 7) y146) none u148) (some 8) y144) (some 45) y150) (some 46) y110) (some 47) y134) (some 48) y152) (some 49) y154) (some 44) y154) (some 50) y156) (some 51) y158) (some 9) y160) none u162) (some 10) y158) (some 52) y108) (some 53) y164) (some 11) y166) none u168) (some 12) (.int .i64 0)) H169)))))))

theorem f6_main (S : Seam (Value × Heap)) (C : CallF) (n : Nat) (x0 : Value) (x1 : Value) (H : Heap) : acodeK S Try.prog C n 79 f6_c (env0 [x0, x1]) H (fin Try.prog Try.f6) = f6 S C n x0 x1 H := by
  have h1 : acodeK S Try.prog C n 79 f6_c (env0 [x0, x1]) H (fin Try.prog Try.f6) = f6G S C n (fun env H => aloopK (acodeK S Try.prog C n 79 (cAt f6_c [1, 1, 1, 1, 1, 1, 1, 1, 0, 1, 0, 0])) n env H (kAt S Try.prog C n 79 f6_c [1, 1, 1, 1, 1, 1, 1, 1, 0, 1, 0] (fin Try.prog Try.f6))) x0 x1 H := by kernel_rfl
  have e0 : (fun env H => aloopK (acodeK S Try.prog C n 79 (cAt f6_c [1, 1, 1, 1, 1, 1, 1, 1, 0, 1, 0, 0])) n env H (kAt S Try.prog C n 79 f6_c [1, 1, 1, 1, 1, 1, 1, 1, 0, 1, 0] (fin Try.prog Try.f6))) = (fun env H => f6_L0 S C n n (env 8) (env 9) (env 10) (env 11) (env 12) H) := by funext env H; exact f6_L0_eq S C n n env H
  rw [e0] at h1
  exact h1.trans (by kernel_rfl)


theorem f6_eq {gl : Bool} {E : Ext} (hE : E 6 = none) (n : Nat) (x0 : Value) (x1 : Value) (H : Heap) : acall Try.prog gl E (n + 1) 6 [x0, x1] H = f6 real (acall Try.prog gl E n) n x0 x1 H :=
  (acall_eq (N := 79) Try.func6 (by kernel_rfl) (by kernel_rfl) hE (okgl f6_c (by kernel_rfl)) (by kernel_rfl)).trans (f6_main real _ n x0 x1 H)

/-! incunable/incunablelaw04.ShaPadded -/
noncomputable def f7_c : Code := (Try.f7.body).getD .skip

noncomputable def f7_L1 (S : Seam (Value × Heap)) (C : CallF) (n : Nat) : Nat → Value → Value → Value → Value → Heap → Option (Value × Heap)
 | 0, _, _, _, _, _ => none
 | m + 1, y102, y103, y104, y105, H106 =>
   S.b (up (lenS y103) H106) fun y107 H108 =>
   S.b (up (binB Try.prog .sub 3 y107 (.int .i64 8)) H108) fun y109 H110 =>
   S.b (up (binB Try.prog .lss 3 y105 y109) H110) fun y111 H112 =>
   S.i y111
   (S.b (up (iAddrS 1 y103 y105) H112) fun y113 H114 =>
    S.b (ldC y113 H114) fun y115 H116 =>
    S.b (up (binB Try.prog .neq 5 y115 (.int .u8 0)) H116) fun y117 H118 =>
    S.i y117
    (some ((.bool false), H118))
    (S.b (up (binB Try.prog .add 3 y105 (.int .i64 1)) H118) fun y119 H120 =>
     f7_L1 S C n m y102 y103 y104 y119 H120))
   (S.b (up (lenS y102) H112) fun y121 H122 =>
    S.b (up (binB Try.prog .mul 3 (.int .i64 8) y121) H122) fun y123 H124 =>
    S.b (up (binB Try.prog .eql 3 y104 y123) H124) fun y125 H126 =>
    S.b (gd (wd y125 true) (C 13 [] H126) H126) fun y127 H128 =>
    S.b (pickV y125 y127 (.bool false) H128) fun y129 H130 =>
    some (y129, H130))

theorem f7_L1_eq (S : Seam (Value × Heap)) (C : CallF) (n : Nat) : ∀ (m : Nat) (env : Env) (H : Heap), aloopK (acodeK S Try.prog C n 91 (cAt f7_c [1, 1, 1, 1, 1, 1, 0, 1, 0, 0])) m env H (kAt S Try.prog C n 91 f7_c [1, 1, 1, 1, 1, 1, 0, 1, 0] (fin Try.prog Try.f7)) = f7_L1 S C n m (env 0) (env 3) (env 4) (env 6) H := by
  intro m env H
  refine aloopK_eq (L := fun m env H => f7_L1 S C n m (env 0) (env 3) (env 4) (env 6) H) (fun env H => rfl) (fun m env H => ?_) m env H
  kernel_rfl


noncomputable def f7_L0 (S : Seam (Value × Heap)) (C : CallF) (n : Nat) : Nat → Value → Value → Value → Value → Heap → Option (Value × Heap)
 | 0, _, _, _, _, _ => none
 | m + 1, y77, y78, y79, y80, H81 =>
   S.b (up (lenS y78) H81) fun y82 H83 =>
   S.b (up (binB Try.prog .lss 3 y80 y82) H83) fun y84 H85 =>
   S.i y84
   (S.b (up (binB Try.prog .mul 3 y79 (.int .i64 256)) H85) fun y86 H87 =>
    S.b (up (iAddrS 1 y78 y80) H87) fun y88 H89 =>
    S.b (ldC y88 H89) fun y90 H91 =>
    S.b (cvI .i64 y90 H91) fun y92 H93 =>
    S.b (up (binB Try.prog .add 3 y86 y92) H93) fun y94 H95 =>
    S.b (up (binB Try.prog .add 3 y80 (.int .i64 1)) H95) fun y96 H97 =>
    f7_L0 S C n m y77 y78 y94 y96 H97)
   (S.b (up (lenS y77) H85) fun y98 H99 =>
    S.b (up (binB Try.prog .add 3 y98 (.int .i64 1)) H99) fun y100 H101 =>
    f7_L1 S C n n y77 y78 y79 y100 H101)

noncomputable def f7_L0G (S : Seam (Value × Heap)) (C : CallF) (n : Nat) (R0 : Value→Value→Value→Value→Heap→Option (Value × Heap)) (P1 : Env → Heap → Option (Value × Heap)) (env : Env) (H : Heap) : Option (Value × Heap) :=
 S.b (up (lenS (env 3)) H) fun y131 H132 =>
 S.b (up (binB Try.prog .lss 3 (env 5) y131) H132) fun y133 H134 =>
 S.i y133
 (S.b (up (binB Try.prog .mul 3 (env 4) (.int .i64 256)) H134) fun y135 H136 =>
  S.b (up (iAddrS 1 (env 3) (env 5)) H136) fun y137 H138 =>
  S.b (ldC y137 H138) fun y139 H140 =>
  S.b (cvI .i64 y139 H140) fun y141 H142 =>
  S.b (up (binB Try.prog .add 3 y135 y141) H142) fun y143 H144 =>
  S.b (up (binB Try.prog .add 3 (env 5) (.int .i64 1)) H144) fun y145 H146 =>
  R0 (env 0) (env 3) y143 y145 H146)
 (S.b (up (lenS (env 0)) H134) fun y147 H148 =>
  S.b (up (binB Try.prog .add 3 y147 (.int .i64 1)) H148) fun y149 H150 =>
  P1 (putE 91 (putE 91 (putE 91 (putE 91 (putE 91 (putE 91 (putE 91 (putE 91 env (some 54) (env 5)) (some 55) (env 3)) (some 56) y131) (some 57) y133) (some 68) (env 0)) (some 69) y147) (some 70) y149) (some 6) y149) H150)

theorem f7_L0_eq (S : Seam (Value × Heap)) (C : CallF) (n : Nat) : ∀ (m : Nat) (env : Env) (H : Heap), aloopK (acodeK S Try.prog C n 91 (cAt f7_c [1, 1, 1, 1, 1, 0, 1, 0, 0])) m env H (kAt S Try.prog C n 91 f7_c [1, 1, 1, 1, 1, 0, 1, 0] (fin Try.prog Try.f7)) = f7_L0 S C n m (env 0) (env 3) (env 4) (env 5) H := by
  intro m env H
  refine aloopK_eq (L := fun m env H => f7_L0 S C n m (env 0) (env 3) (env 4) (env 5) H) (fun env H => rfl) (fun m env H => ?_) m env H
  have h1 : acodeK S Try.prog C n 91 (cAt f7_c [1, 1, 1, 1, 1, 0, 1, 0, 0]) env H (onNormal (fun env' H' => f7_L0 S C n m (env' 0) (env' 3) (env' 4) (env' 5) H') (kAt S Try.prog C n 91 f7_c [1, 1, 1, 1, 1, 0, 1, 0] (fin Try.prog Try.f7))) = f7_L0G S C n (f7_L0 S C n m) (fun env H => aloopK (acodeK S Try.prog C n 91 (cAt f7_c [1, 1, 1, 1, 1, 1, 0, 1, 0, 0])) n env H (kAt S Try.prog C n 91 f7_c [1, 1, 1, 1, 1, 1, 0, 1, 0] (fin Try.prog Try.f7))) env H := by kernel_rfl
  have e0 : (fun env H => aloopK (acodeK S Try.prog C n 91 (cAt f7_c [1, 1, 1, 1, 1, 1, 0, 1, 0, 0])) n env H (kAt S Try.prog C n 91 f7_c [1, 1, 1, 1, 1, 1, 0, 1, 0] (fin Try.prog Try.f7))) = (fun env H => f7_L1 S C n n (env 0) (env 3) (env 4) (env 6) H) := by funext env H; exact f7_L1_eq S C n n env H
  rw [e0] at h1
  exact h1.trans (by kernel_rfl)


noncomputable def f7 (S : Seam (Value × Heap)) (C : CallF) (n : Nat) (x0 : Value) (H : Heap) : Option (Value × Heap) :=
 S.b (up (lenS x0) H) fun y1 H2 =>
 S.b (minV y1 (.int .i64 5000) H2) fun y3 H4 =>
 S.b (up (slcS 1 x0 none (some y3) none) H4) fun y5 H6 =>
 S.b (C 20 [y5] H6) fun y7 H8 =>
 S.b (up (lenS y7) H8) fun y9 H10 =>
 S.b (up (binB Try.prog .rem 3 y9 (.int .i64 64)) H10) fun y11 H12 =>
 S.b (up (binB Try.prog .neq 3 y11 (.int .i64 0)) H12) fun y13 H14 =>
 S.b (gd (wd y13 false) (some (y7, H14)) H14) fun y15 H16 =>
 S.b (gd (wd y13 false) (up (lenS y15) H16) H16) fun y17 H18 =>
 S.b (gd (wd y13 false) (some (y5, H18)) H18) fun y19 H20 =>
 S.b (gd (wd y13 false) (up (lenS y19) H20) H20) fun y21 H22 =>
 S.b (gd (wd y13 false) (up (binB Try.prog .add 3 y21 (.int .i64 9)) H22) H22) fun y23 H24 =>
 S.b (gd (wd y13 false) (up (binB Try.prog .lss 3 y17 y23) H24) H24) fun y25 H26 =>
 S.b (pickV y13 (.bool true) y25 H26) fun y27 H28 =>
 S.b (gd (wd y27 false) (some (y7, H28)) H28) fun y29 H30 =>
 S.b (gd (wd y27 false) (up (lenS y29) H30) H30) fun y31 H32 =>
 S.b (gd (wd y27 false) (some (y5, H32)) H32) fun y33 H34 =>
 S.b (gd (wd y27 false) (up (lenS y33) H34) H34) fun y35 H36 =>
 S.b (gd (wd y27 false) (up (binB Try.prog .add 3 y35 (.int .i64 73)) H36) H36) fun y37 H38 =>
 S.b (gd (wd y27 false) (up (binB Try.prog .geq 3 y31 y37) H38) H38) fun y39 H40 =>
 S.b (pickV y27 (.bool true) y39 H40) fun y41 H42 =>
 S.b (gd (wd y41 false) (some (y7, H42)) H42) fun y43 H44 =>
 S.b (gd (wd y41 false) (some (y5, H44)) H44) fun y45 H46 =>
 S.b (gd (wd y41 false) (up (lenS y45) H46) H46) fun y47 H48 =>
 S.b (gd (wd y41 false) (up (slcS 1 y43 none (some y47) none) H48) H48) fun y49 H50 =>
 S.b (gd (wd y41 false) (some (y5, H50)) H50) fun y51 H52 =>
 S.b (gd (wd y41 false) (C 17 [y49, y51] H52) H52) fun y53 H54 =>
 S.b (gd (wd y41 false) (up (unB .not y53) H54) H54) fun y55 H56 =>
 S.b (pickV y41 (.bool true) y55 H56) fun y57 H58 =>
 S.b (gd (wd y57 false) (some (y7, H58)) H58) fun y59 H60 =>
 S.b (gd (wd y57 false) (some (y5, H60)) H60) fun y61 H62 =>
 S.b (gd (wd y57 false) (up (lenS y61) H62) H62) fun y63 H64 =>
 S.b (gd (wd y57 false) (up (iAddrS 1 y59 y63) H64) H64) fun y65 H66 =>
 S.b (gd (wd y57 false) (ldC y65 H66) H66) fun y67 H68 =>
 S.b (gd (wd y57 false) (up (binB Try.prog .neq 5 y67 (.int .u8 128)) H68) H68) fun y69 H70 =>
 S.b (pickV y57 (.bool true) y69 H70) fun y71 H72 =>
 S.i y71
 (some ((.bool false), H72))
 (S.b (up (lenS y7) H72) fun y73 H74 =>
  S.b (up (binB Try.prog .sub 3 y73 (.int .i64 8)) H74) fun y75 H76 =>
  f7_L0 S C n n y5 y7 (.int .i64 0) y75 H76)

noncomputable def f7G (S : Seam (Value × Heap)) (C : CallF) (n : Nat) (P0 : Env → Heap → Option (Value × Heap)) (x0 : Value) (H : Heap) : Option (Value × Heap) :=
 S.b (up (lenS x0) H) fun y151 H152 =>
 S.b (minV y151 (.int .i64 5000) H152) fun y153 H154 =>
 S.b (up (slcS 1 x0 none (some y153) none) H154) fun y155 H156 =>
 S.b (C 20 [y155] H156) fun y157 H158 =>
 S.b (up (lenS y157) H158) fun y159 H160 =>
 S.b (up (binB Try.prog .rem 3 y159 (.int .i64 64)) H160) fun y161 H162 =>
 S.b (up (binB Try.prog .neq 3 y161 (.int .i64 0)) H162) fun y163 H164 =>
 S.b (gd (wd y163 false) (some (y157, H164)) H164) fun y165 H166 =>
 S.b (gd (wd y163 false) (up (lenS y165) H166) H166) fun y167 H168 =>
 S.b (gd (wd y163 false) (some (y155, H168)) H168) fun y169 H170 =>
 S.b (gd (wd y163 false) (up (lenS y169) H170) H170) fun y171 H172 =>
 S.b (gd (wd y163 false) (up (binB Try.prog .add 3 y171 (.int .i64 9)) H172) H172) fun y173 H174 =>
 S.b (gd (wd y163 false) (up (binB Try.prog .lss 3 y167 y173) H174) H174) fun y175 H176 =>
 S.b (pickV y163 (.bool true) y175 H176) fun y177 H178 =>
 S.b (gd (wd y177 false) (some (y157, H178)) H178) fun y179 H180 =>
 S.b (gd (wd y177 false) (up (lenS y179) H180) H180) fun y181 H182 =>
 S.b (gd (wd y177 false) (some (y155, H182)) H182) fun y183 H184 =>
 S.b (gd (wd y177 false) (up (lenS y183) H184) H184) fun y185 H186 =>
 S.b (gd (wd y177 false) (up (binB Try.prog .add 3 y185 (.int .i64 73)) H186) H186) fun y187 H188 =>
 S.b (gd (wd y177 false) (up (binB Try.prog .geq 3 y181 y187) H188) H188) fun y189 H190 =>
 S.b (pickV y177 (.bool true) y189 H190) fun y191 H192 =>
 S.b (gd (wd y191 false) (some (y157, H192)) H192) fun y193 H194 =>
 S.b (gd (wd y191 false) (some (y155, H194)) H194) fun y195 H196 =>
 S.b (gd (wd y191 false) (up (lenS y195) H196) H196) fun y197 H198 =>
 S.b (gd (wd y191 false) (up (slcS 1 y193 none (some y197) none) H198) H198) fun y199 H200 =>
 S.b (gd (wd y191 false) (some (y155, H200)) H200) fun y201 H202 =>
 S.b (gd (wd y191 false) (C 17 [y199, y201] H202) H202) fun y203 H204 =>
 S.b (gd (wd y191 false) (up (unB .not y203) H204) H204) fun y205 H206 =>
 S.b (pickV y191 (.bool true) y205 H206) fun y207 H208 =>
 S.b (gd (wd y207 false) (some (y157, H208)) H208) fun y209 H210 =>
 S.b (gd (wd y207 false) (some (y155, H210)) H210) fun y211 H212 =>
 S.b (gd (wd y207 false) (up (lenS y211) H212) H212) fun y213 H214 =>
 S.b (gd (wd y207 false) (up (iAddrS 1 y209 y213) H214) H214) fun y215 H216 =>
 S.b (gd (wd y207 false) (ldC y215 H216) H216) fun y217 H218 =>
 S.b (gd (wd y207 false) (up (binB Try.prog .neq 5 y217 (.int .u8 128)) H218) H218) fun y219 H220 =>
 S.b (pickV y207 (.bool true) y219 H220) fun y221 H222 =>
 S.i y221
 (some ((.bool false), H222))
 (S.b (up (lenS y157) H222) fun y223 H224 =>
  S.b (up (binB Try.prog .sub 3 y223 (.int .i64 8)) H224) fun y225 H226 =>
  P0 (putE 91 (putE 91 (putE 91 (putE 91 (putE 91 (putE 91 (putE 91 (putE 91 (putE 91 (putE 91 (putE 91 (putE 91 (putE 91 (putE 91 (putE 91 (putE 91 (putE 91 (putE 91 (putE 91 (putE 91 (putE 91 (putE 91 (putE 91 (putE 91 (putE 91 (putE 91 (putE 91 (putE 91 (putE 91 (putE 91 (putE 91 (putE 91 (putE 91 (putE 91 (putE 91 (putE 91 (putE 91 (putE 91 (putE 91 (putE 91 (putE 91 (putE 91 (putE 91 (putE 91 (putE 91 (putE 91 (putE 91 (putE 91 (putE 91 (putE 91 (putE 91 (putE 91 (env0 [x0]) (some 2) (.bool false)) (some 7) x0) (some 8) x0) (some 9) y151) (some 10) y153) (some 11) y155) (some 0) y155) (some 12) y155) (some 13) y157) (some 3) y157) (some 14) y157) (some 15) y159) (some 16) y161) (some 17) y163) (some 18) y163) (some 19) y165) (some 20) y167) (some 21) y169) (some 22) y171) (some 23) y173) (some 24) y175) (some 25) y177) (some 26) y177) (some 27) y179) (some 28) y181) (some 29) y183) (some 30) y185) (some 31) y187) (some 32) y189) (some 33) y191) (some 34) y191) (some 35) y193) (some 36) y195) (some 37) y197) (some 38) y199) (some 39) y201) (some 40) y203) (some 41) y205) (some 42) y207) (some 43) y207) (some 44) y209) (some 45) y211) (some 46) y213) (some 47) y215) (some 48) y217) (some 49) y219) (some 50) y221) (some 4) (.int .i64 0)) (some 51) y157) (some 52) y223) (some 53) y225) (some 5) y225) H226)

theorem f7_main (S : Seam (Value × Heap)) (C : CallF) (n : Nat) (x0 : Value) (H : Heap) : acodeK S Try.prog C n 91 f7_c (env0 [x0]) H (fin Try.prog Try.f7) = f7 S C n x0 H := by
  have h1 : acodeK S Try.prog C n 91 f7_c (env0 [x0]) H (fin Try.prog Try.f7) = f7G S C n (fun env H => aloopK (acodeK S Try.prog C n 91 (cAt f7_c [1, 1, 1, 1, 1, 0, 1, 0, 0])) n env H (kAt S Try.prog C n 91 f7_c [1, 1, 1, 1, 1, 0, 1, 0] (fin Try.prog Try.f7))) x0 H := by kernel_rfl
  have e0 : (fun env H => aloopK (acodeK S Try.prog C n 91 (cAt f7_c [1, 1, 1, 1, 1, 0, 1, 0, 0])) n env H (kAt S Try.prog C n 91 f7_c [1, 1, 1, 1, 1, 0, 1, 0] (fin Try.prog Try.f7))) = (fun env H => f7_L0 S C n n (env 0) (env 3) (env 4) (env 5) H) := by funext env H; exact f7_L0_eq S C n n env H
  rw [e0] at h1
  exact h1.trans (by kernel_rfl)


theorem f7_eq {gl : Bool} {E : Ext} (hE : E 7 = none) (n : Nat) (x0 : Value) (H : Heap) : acall Try.prog gl E (n + 1) 7 [x0] H = f7 real (acall Try.prog gl E n) n x0 H :=
  (acall_eq (N := 91) Try.func7 (by kernel_rfl) (by kernel_rfl) hE (okgl f7_c (by kernel_rfl)) (by kernel_rfl)).trans (f7_main real _ n x0 H)

/-! incunable/incunablelaw04.ShaSquares -/
noncomputable def f8_c : Code := (Try.f8.body).getD .skip

noncomputable def f8_L0 (S : Seam (Value × Heap)) (C : CallF) (n : Nat) : Nat → Value → Value → Value → Heap → Option (Value × Heap)
 | 0, _, _, _, _ => none
 | m + 1, y39, y40, y41, H42 =>
   S.b (up (binB Try.prog .add 3 y39 (.int .i64 1)) H42) fun y43 H44 =>
   S.b (up (binB Try.prog .add 3 y39 (.int .i64 1)) H44) fun y45 H46 =>
   S.b (up (binB Try.prog .mul 3 y43 y45) H46) fun y47 H48 =>
   S.b (up (binB Try.prog .lss 3 y41 y47) H48) fun y49 H50 =>
   S.b (gd (wd y49 true) (some (y41, H50)) H50) fun y51 H52 =>
   S.b (gd (wd y49 true) (up (binB Try.prog .leq 3 y51 (.int .i64 1000)) H52) H52) fun y53 H54 =>
   S.b (pickV y49 y53 (.bool false) H54) fun y55 H56 =>
   S.i y55
   (S.b (C 11 [(.int .i64 2), y41] H56) fun y57 H58 =>
    S.b (extr 0 y57 H58) fun y59 H60 =>
    S.b (extr 1 y57 H60) fun y61 H62 =>
    S.b (up (binB Try.prog .neq 23 y61 (.int .i64 0)) H62) fun y63 H64 =>
    S.b (gd (wd y63 false) (some (y59, H64)) H64) fun y65 H66 =>
    S.b (gd (wd y63 false) (some (y40, H66)) H66) fun y67 H68 =>
    S.b (gd (wd y63 false) (up (binB Try.prog .leq 22 y65 y67) H68) H68) fun y69 H70 =>
    S.b (pickV y63 (.bool true) y69 H70) fun y71 H72 =>
    S.i y71
    (some ((.bool false), H72))
    (S.b (up (binB Try.prog .add 3 y41 (.int .i64 1)) H72) fun y73 H74 =>
     f8_L0 S C n m y39 y59 y73 H74))
   (S.b (C 13 [] H56) fun y75 H76 =>
    some (y75, H76))

theorem f8_L0_eq (S : Seam (Value × Heap)) (C : CallF) (n : Nat) : ∀ (m : Nat) (env : Env) (H : Heap), aloopK (acodeK S Try.prog C n 60 (cAt f8_c [1, 1, 1, 1, 0, 1, 0, 0])) m env H (kAt S Try.prog C n 60 f8_c [1, 1, 1, 1, 0, 1, 0] (fin Try.prog Try.f8)) = f8_L0 S C n m (env 3) (env 4) (env 5) H := by
  intro m env H
  refine aloopK_eq (L := fun m env H => f8_L0 S C n m (env 3) (env 4) (env 5) H) (fun env H => rfl) (fun m env H => ?_) m env H
  kernel_rfl


noncomputable def f8 (S : Seam (Value × Heap)) (C : CallF) (n : Nat) (x0 : Value) (H : Heap) : Option (Value × Heap) :=
 S.b (C 21 [x0, (.int .i64 30)] H) fun y1 H2 =>
 S.b (up (binB Try.prog .add 3 (.int .i64 1) y1) H2) fun y3 H4 =>
 S.b (up (binB Try.prog .mul 3 y3 y3) H4) fun y5 H6 =>
 S.b (C 24 [(.int .i64 2), y5, (.int .u32 0)] H6) fun y7 H8 =>
 S.b (up (unB .not y7) H8) fun y9 H10 =>
 S.b (gd (wd y9 false) (some (y3, H10)) H10) fun y11 H12 =>
 S.b (gd (wd y9 false) (up (binB Try.prog .leq 3 y11 (.int .i64 10)) H12) H12) fun y13 H14 =>
 S.b (gd (wd y9 false) (some (y13, H14)) H14) fun y15 H16 =>
 S.b (gd (wd y15 true) (some (y3, H16)) H16) fun y17 H18 =>
 S.b (gd (wd y15 true) (some (y3, H18)) H18) fun y19 H20 =>
 S.b (gd (wd y15 true) (up (binB Try.prog .mul 3 y17 y19) H20) H20) fun y21 H22 =>
 S.b (gd (wd y15 true) (some (y3, H22)) H22) fun y23 H24 =>
 S.b (gd (wd y15 true) (up (binB Try.prog .mul 3 y21 y23) H24) H24) fun y25 H26 =>
 S.b (gd (wd y15 true) (C 24 [(.int .i64 3), y25, (.int .u32 0)] H26) H26) fun y27 H28 =>
 S.b (gd (wd y15 true) (up (unB .not y27) H28) H28) fun y29 H30 =>
 S.b (gd (wd y9 false) (pickV y15 y29 (.bool false) H30) H30) fun y31 H32 =>
 S.b (pickV y9 (.bool true) y31 H32) fun y33 H34 =>
 S.i y33
 (some ((.bool false), H34))
 (S.b (up (binB Try.prog .mul 3 y3 y3) H34) fun y35 H36 =>
  S.b (up (binB Try.prog .add 3 y35 (.int .i64 1)) H36) fun y37 H38 =>
  f8_L0 S C n n y3 (.int .u32 0) y37 H38)

noncomputable def f8G (S : Seam (Value × Heap)) (C : CallF) (n : Nat) (P0 : Env → Heap → Option (Value × Heap)) (x0 : Value) (H : Heap) : Option (Value × Heap) :=
 S.b (C 21 [x0, (.int .i64 30)] H) fun y77 H78 =>
 S.b (up (binB Try.prog .add 3 (.int .i64 1) y77) H78) fun y79 H80 =>
 S.b (up (binB Try.prog .mul 3 y79 y79) H80) fun y81 H82 =>
 S.b (C 24 [(.int .i64 2), y81, (.int .u32 0)] H82) fun y83 H84 =>
 S.b (up (unB .not y83) H84) fun y85 H86 =>
 S.b (gd (wd y85 false) (some (y79, H86)) H86) fun y87 H88 =>
 S.b (gd (wd y85 false) (up (binB Try.prog .leq 3 y87 (.int .i64 10)) H88) H88) fun y89 H90 =>
 S.b (gd (wd y85 false) (some (y89, H90)) H90) fun y91 H92 =>
 S.b (gd (wd y91 true) (some (y79, H92)) H92) fun y93 H94 =>
 S.b (gd (wd y91 true) (some (y79, H94)) H94) fun y95 H96 =>
 S.b (gd (wd y91 true) (up (binB Try.prog .mul 3 y93 y95) H96) H96) fun y97 H98 =>
 S.b (gd (wd y91 true) (some (y79, H98)) H98) fun y99 H100 =>
 S.b (gd (wd y91 true) (up (binB Try.prog .mul 3 y97 y99) H100) H100) fun y101 H102 =>
 S.b (gd (wd y91 true) (C 24 [(.int .i64 3), y101, (.int .u32 0)] H102) H102) fun y103 H104 =>
 S.b (gd (wd y91 true) (up (unB .not y103) H104) H104) fun y105 H106 =>
 S.b (gd (wd y85 false) (pickV y91 y105 (.bool false) H106) H106) fun y107 H108 =>
 S.b (pickV y85 (.bool true) y107 H108) fun y109 H110 =>
 S.i y109
 (some ((.bool false), H110))
 (S.b (up (binB Try.prog .mul 3 y79 y79) H110) fun y111 H112 =>
  S.b (up (binB Try.prog .add 3 y111 (.int .i64 1)) H112) fun y113 H114 =>
  P0 (putE 60 (putE 60 (putE 60 (putE 60 (putE 60 (putE 60 (putE 60 (putE 60 (putE 60 (putE 60 (putE 60 (putE 60 (putE 60 (putE 60 (putE 60 (putE 60 (putE 60 (putE 60 (putE 60 (putE 60 (putE 60 (putE 60 (putE 60 (putE 60 (putE 60 (putE 60 (putE 60 (putE 60 (putE 60 (env0 [x0]) (some 2) (.bool false)) (some 8) x0) (some 9) y77) (some 10) y79) (some 3) y79) (some 11) y79) (some 12) y79) (some 13) y81) (some 14) y83) (some 15) y85) (some 16) y85) (some 17) y87) (some 18) y89) (some 19) y91) (some 20) y93) (some 21) y95) (some 22) y97) (some 23) y99) (some 24) y101) (some 25) y103) (some 26) y105) (some 27) y107) (some 28) y109) (some 4) (.int .u32 0)) (some 29) y79) (some 30) y79) (some 31) y111) (some 32) y113) (some 5) y113) H114)

theorem f8_main (S : Seam (Value × Heap)) (C : CallF) (n : Nat) (x0 : Value) (H : Heap) : acodeK S Try.prog C n 60 f8_c (env0 [x0]) H (fin Try.prog Try.f8) = f8 S C n x0 H := by
  have h1 : acodeK S Try.prog C n 60 f8_c (env0 [x0]) H (fin Try.prog Try.f8) = f8G S C n (fun env H => aloopK (acodeK S Try.prog C n 60 (cAt f8_c [1, 1, 1, 1, 0, 1, 0, 0])) n env H (kAt S Try.prog C n 60 f8_c [1, 1, 1, 1, 0, 1, 0] (fin Try.prog Try.f8))) x0 H := by kernel_rfl
  have e0 : (fun env H => aloopK (acodeK S Try.prog C n 60 (cAt f8_c [1, 1, 1, 1, 0, 1, 0, 0])) n env H (kAt S Try.prog C n 60 f8_c [1, 1, 1, 1, 0, 1, 0] (fin Try.prog Try.f8))) = (fun env H => f8_L0 S C n n (env 3) (env 4) (env 5) H) := by funext env H; exact f8_L0_eq S C n n env H
  rw [e0] at h1
  exact h1.trans (by kernel_rfl)


theorem f8_eq {gl : Bool} {E : Ext} (hE : E 8 = none) (n : Nat) (x0 : Value) (H : Heap) : acall Try.prog gl E (n + 1) 8 [x0] H = f8 real (acall Try.prog gl E n) n x0 H :=
  (acall_eq (N := 60) Try.func8 (by kernel_rfl) (by kernel_rfl) hE (okgl f8_c (by kernel_rfl)) (by kernel_rfl)).trans (f8_main real _ n x0 H)

/-! incunable/incunablelaw04.ShaWrites -/
noncomputable def f9_c : Code := (Try.f9.body).getD .skip

noncomputable def f9 (S : Seam (Value × Heap)) (C : CallF) (n : Nat) (x0 : Value) (x1 : Value) (H : Heap) : Option (Value × Heap) :=
 S.b (newV (Value.cells x0).toList H) fun y1 H2 =>
 S.b (C 25 [x1] H2) fun y3 H4 =>
 S.b (extr 0 y3 H4) fun y5 H6 =>
 S.b (extr 1 y3 H6) fun y7 H8 =>
 S.b (newV (rep 32 [(.int .u8 0)]) H8) fun y9 H10 =>
 S.b (stV 32 y9 y5 H10) fun _ H11 =>
 S.b (C 26 [x1] H11) fun y12 H13 =>
 S.b (extr 0 y12 H13) fun y14 H15 =>
 S.b (extr 1 y12 H15) fun y16 H17 =>
 S.b (newV (rep 32 [(.int .u8 0)]) H17) fun y18 H19 =>
 S.b (stV 32 y18 y14 H19) fun _ H20 =>
 S.c true (S.b (ldA 32 y1 H20) fun y21 H22 =>
 S.b (C 27 [y21] H22) fun y23 H24 =>
 S.c true (S.c ((sameBlk H22 H24 (blkOf y1)) && true) (S.b (ldA 32 y1 H24) fun y25 H26 =>
  S.b (C 28 [y25] H26) fun y27 H28 =>
  S.c true (S.b (up (binB Try.prog .eql 9 y23 y27) H28) fun y29 H30 =>
   S.c (!(wd y29 true) || true) (S.b (gd (wd y29 true) (ldA 32 y9 H30) H30) fun y31 H32 =>
   S.c (!(wd y29 true) || true) (S.b (gd (wd y29 true) (ldA 32 y18 H32) H32) fun y33 H34 =>
   S.b (gd (wd y29 true) (up (binB Try.prog .eql 35 y31 y33) H34) H34) fun y35 H36 =>
   S.b (pickV y29 y35 (.bool false) H36) fun y37 H38 =>
   S.b (gd (wd y37 true) (some (y7, H38)) H38) fun y39 H40 =>
   S.b (gd (wd y37 true) (some (y16, H40)) H40) fun y41 H42 =>
   S.b (gd (wd y37 true) (up (binB Try.prog .eql 23 y39 y41) H42) H42) fun y43 H44 =>
   S.b (pickV y37 y43 (.bool false) H44) fun y45 H46 =>
   S.b (gd (wd y45 true) (C 13 [] H46) H46) fun y47 H48 =>
   S.c (!(wd y45 true) || true) (S.b (pickV y45 y47 (.bool false) H48) fun y49 H50 =>
    some (y49, H50))))))))

theorem f9_main (S : Seam (Value × Heap)) (C : CallF) (n : Nat) (x0 : Value) (x1 : Value) (H : Heap) : acodeK S Try.prog C n 37 f9_c (env0 [x0, x1]) H (fin Try.prog Try.f9) = f9 S C n x0 x1 H := by
  kernel_rfl


theorem f9_eq {gl : Bool} {E : Ext} (hE : E 9 = none) (n : Nat) (x0 : Value) (x1 : Value) (H : Heap) : acall Try.prog gl E (n + 1) 9 [x0, x1] H = f9 real (acall Try.prog gl E n) n x0 x1 H :=
  (acall_eq (N := 37) Try.func9 (by kernel_rfl) (by kernel_rfl) hE (okgl f9_c (by kernel_rfl)) (by kernel_rfl)).trans (f9_main real _ n x0 x1 H)

/-! incunable/incunablelaw04.ShaBack -/
noncomputable def f10_c : Code := (Try.f10.body).getD .skip

noncomputable def f10 (S : Seam (Value × Heap)) (C : CallF) (n : Nat) (x0 : Value) (x1 : Value) (H : Heap) : Option (Value × Heap) :=
 S.b (newV (Value.cells x0).toList H) fun y1 H2 =>
 S.b (ldA 32 y1 H2) fun y3 H4 =>
 S.b (C 27 [y3] H4) fun y5 H6 =>
 S.b (C 25 [y5] H6) fun y7 H8 =>
 S.b (extr 0 y7 H8) fun y9 H10 =>
 S.b (extr 1 y7 H10) fun y11 H12 =>
 S.b (newV (rep 32 [(.int .u8 0)]) H12) fun y13 H14 =>
 S.b (stV 32 y13 y9 H14) fun _ H15 =>
 S.b (C 25 [x1] H15) fun y16 H17 =>
 S.b (extr 0 y16 H17) fun y18 H19 =>
 S.b (extr 1 y16 H19) fun y20 H21 =>
 S.b (newV (rep 32 [(.int .u8 0)]) H21) fun y22 H23 =>
 S.b (stV 32 y22 y18 H23) fun _ H24 =>
 S.b (up (lenStr y5) H24) fun y25 H26 =>
 S.b (up (binB Try.prog .eql 3 y25 (.int .i64 64)) H26) fun y27 H28 =>
 S.b (gd (wd y27 true) (some (y11, H28)) H28) fun y29 H30 =>
 S.b (gd (wd y27 true) (up (binB Try.prog .eql 23 y29 (.int .i64 0)) H30) H30) fun y31 H32 =>
 S.b (pickV y27 y31 (.bool false) H32) fun y33 H34 =>
 S.b (gd (wd y33 true) (ldA 32 y13 H34) H34) fun y35 H36 =>
 S.b (gd (wd y33 true) (ldA 32 y1 H36) H36) fun y37 H38 =>
 S.b (gd (wd y33 true) (up (binB Try.prog .eql 35 y35 y37) H38) H38) fun y39 H40 =>
 S.b (pickV y33 y39 (.bool false) H40) fun y41 H42 =>
 S.b (gd (wd y41 true) (some (y20, H42)) H42) fun y43 H44 =>
 S.b (gd (wd y41 true) (up (binB Try.prog .eql 23 y43 (.int .i64 4)) H44) H44) fun y45 H46 =>
 S.b (gd (wd y41 true) (some (y45, H46)) H46) fun y47 H48 =>
 S.b (gd (wd y47 true) (ldA 32 y22 H48) H48) fun y49 H50 =>
 S.b (gd (wd y47 true) (bld (rep 32 [(.int .u8 0)]) [] H50) H50) fun y51 H52 =>
 S.b (gd (wd y47 true) (up (binB Try.prog .eql 35 y49 y51) H52) H52) fun y53 H54 =>
 S.b (gd (wd y41 true) (pickV y47 y53 (.bool false) H54) H54) fun y55 H56 =>
 S.b (gd (wd y41 true) (some (y55, H56)) H56) fun y57 H58 =>
 S.b (gd (wd y57 false) (some (y20, H58)) H58) fun y59 H60 =>
 S.b (gd (wd y57 false) (up (binB Try.prog .eql 23 y59 (.int .i64 0)) H60) H60) fun y61 H62 =>
 S.b (gd (wd y57 false) (some (y61, H62)) H62) fun y63 H64 =>
 S.b (gd (wd y63 true) (ldA 32 y22 H64) H64) fun y65 H66 =>
 S.b (gd (wd y63 true) (C 27 [y65] H66) H66) fun y67 H68 =>
 S.b (gd (wd y63 true) (some (x1, H68)) H68) fun y69 H70 =>
 S.b (gd (wd y63 true) (up (binB Try.prog .eql 9 y67 y69) H70) H70) fun y71 H72 =>
 S.b (gd (wd y57 false) (pickV y63 y71 (.bool false) H72) H72) fun y73 H74 =>
 S.b (gd (wd y41 true) (pickV y57 (.bool true) y73 H74) H74) fun y75 H76 =>
 S.b (pickV y41 y75 (.bool false) H76) fun y77 H78 =>
 S.b (gd (wd y77 true) (C 13 [] H78) H78) fun y79 H80 =>
 S.b (pickV y77 y79 (.bool false) H80) fun y81 H82 =>
 some (y81, H82)

theorem f10_main (S : Seam (Value × Heap)) (C : CallF) (n : Nat) (x0 : Value) (x1 : Value) (H : Heap) : acodeK S Try.prog C n 56 f10_c (env0 [x0, x1]) H (fin Try.prog Try.f10) = f10 S C n x0 x1 H := by
  kernel_rfl


theorem f10_eq {gl : Bool} {E : Ext} (hE : E 10 = none) (n : Nat) (x0 : Value) (x1 : Value) (H : Heap) : acall Try.prog gl E (n + 1) 10 [x0, x1] H = f10 real (acall Try.prog gl E n) n x0 x1 H :=
  (acall_eq (N := 56) Try.func10 (by kernel_rfl) (by kernel_rfl) hE (okgl f10_c (by kernel_rfl)) (by kernel_rfl)).trans (f10_main real _ n x0 x1 H)

/-! incunable/sha.Root -/
noncomputable def f11_c : Code := (Try.f11.body).getD .skip

noncomputable def f11_J1 (S : Seam (Value × Heap)) (C : CallF) (n : Nat) (R0 : Value→Value→Value→Value→Heap→Option (Value × Heap)) (y39 y40 y41 y42 : Value) (H43 : Heap) : Option (Value × Heap) :=
 S.b (up (binB Try.prog .sub 3 y42 (.int .i64 1)) H43) fun y44 H45 =>
 R0 y39 y40 y41 y44 H45

noncomputable def f11_L0 (S : Seam (Value × Heap)) (C : CallF) (n : Nat) : Nat → Value → Value → Value → Value → Heap → Option (Value × Heap)
 | 0, _, _, _, _, _ => none
 | m + 1, y21, y22, y23, y24, H25 =>
   S.b (up (binB Try.prog .geq 3 y24 (.int .i64 0)) H25) fun y26 H27 =>
   S.i y26
   (S.b (up (binB Try.prog .shl 49 (.int .u64 1) y24) H27) fun y28 H29 =>
    S.b (up (binB Try.prog .or 49 y23 y28) H29) fun y30 H31 =>
    S.b (C 29 [y30, y21, y22] H31) fun y32 H33 =>
    S.i y32
    (f11_J1 S C n (f11_L0 S C n m) y21 y22 y30 y24 H33)
    (f11_J1 S C n (f11_L0 S C n m) y21 y22 y23 y24 H33))
   (S.b (cvI .u32 y23 H27) fun y46 H47 =>
    some (.tuple #[y46, (.int .i64 0)], H47))

theorem f11_L0_eq (S : Seam (Value × Heap)) (C : CallF) (n : Nat) : ∀ (m : Nat) (env : Env) (H : Heap), aloopK (acodeK S Try.prog C n 38 (cAt f11_c [1, 1, 1, 0, 1, 0, 0])) m env H (kAt S Try.prog C n 38 f11_c [1, 1, 1, 0, 1, 0] (fin Try.prog Try.f11)) = f11_L0 S C n m (env 0) (env 1) (env 6) (env 7) H := by
  intro m env H
  refine aloopK_eq (L := fun m env H => f11_L0 S C n m (env 0) (env 1) (env 6) (env 7) H) (fun env H => rfl) (fun m env H => ?_) m env H
  kernel_rfl


noncomputable def f11 (S : Seam (Value × Heap)) (C : CallF) (n : Nat) (x0 : Value) (x1 : Value) (H : Heap) : Option (Value × Heap) :=
 S.b (up (binB Try.prog .neq 3 x0 (.int .i64 2)) H) fun y1 H2 =>
 S.b (gd (wd y1 true) (some (x0, H2)) H2) fun y3 H4 =>
 S.b (gd (wd y1 true) (up (binB Try.prog .neq 3 y3 (.int .i64 3)) H4) H4) fun y5 H6 =>
 S.b (pickV y1 y5 (.bool false) H6) fun y7 H8 =>
 S.b (gd (wd y7 false) (some (x1, H8)) H8) fun y9 H10 =>
 S.b (gd (wd y7 false) (up (binB Try.prog .lss 3 y9 (.int .i64 1)) H10) H10) fun y11 H12 =>
 S.b (pickV y7 (.bool true) y11 H12) fun y13 H14 =>
 S.b (gd (wd y13 false) (some (x1, H14)) H14) fun y15 H16 =>
 S.b (gd (wd y13 false) (up (binB Try.prog .gtr 3 y15 (.int .i64 1000)) H16) H16) fun y17 H18 =>
 S.b (pickV y13 (.bool true) y17 H18) fun y19 H20 =>
 S.i y19
 (some (.tuple #[(.int .u32 0), (.int .i64 2)], H20))
 (f11_L0 S C n n x0 x1 (.int .u64 0) (.int .i64 38) H20)

noncomputable def f11G (S : Seam (Value × Heap)) (C : CallF) (n : Nat) (P0 : Env → Heap → Option (Value × Heap)) (x0 : Value) (x1 : Value) (H : Heap) : Option (Value × Heap) :=
 S.b (up (binB Try.prog .neq 3 x0 (.int .i64 2)) H) fun y48 H49 =>
 S.b (gd (wd y48 true) (some (x0, H49)) H49) fun y50 H51 =>
 S.b (gd (wd y48 true) (up (binB Try.prog .neq 3 y50 (.int .i64 3)) H51) H51) fun y52 H53 =>
 S.b (pickV y48 y52 (.bool false) H53) fun y54 H55 =>
 S.b (gd (wd y54 false) (some (x1, H55)) H55) fun y56 H57 =>
 S.b (gd (wd y54 false) (up (binB Try.prog .lss 3 y56 (.int .i64 1)) H57) H57) fun y58 H59 =>
 S.b (pickV y54 (.bool true) y58 H59) fun y60 H61 =>
 S.b (gd (wd y60 false) (some (x1, H61)) H61) fun y62 H63 =>
 S.b (gd (wd y60 false) (up (binB Try.prog .gtr 3 y62 (.int .i64 1000)) H63) H63) fun y64 H65 =>
 S.b (pickV y60 (.bool true) y64 H65) fun y66 H67 =>
 S.i y66
 (some (.tuple #[(.int .u32 0), (.int .i64 2)], H67))
 (P0 (putE 38 (putE 38 (putE 38 (putE 38 (putE 38 (putE 38 (putE 38 (putE 38 (putE 38 (putE 38 (putE 38 (putE 38 (putE 38 (putE 38 (putE 38 (putE 38 (putE 38 (putE 38 (env0 [x0, x1]) (some 4) (.int .u32 0)) (some 5) (.int .i64 0)) (some 9) x0) (some 10) y48) (some 11) y48) (some 12) y50) (some 13) y52) (some 14) y54) (some 15) y54) (some 16) y56) (some 17) y58) (some 18) y60) (some 19) y60) (some 20) y62) (some 21) y64) (some 22) y66) (some 6) (.int .u64 0)) (some 7) (.int .i64 38)) H67)

theorem f11_main (S : Seam (Value × Heap)) (C : CallF) (n : Nat) (x0 : Value) (x1 : Value) (H : Heap) : acodeK S Try.prog C n 38 f11_c (env0 [x0, x1]) H (fin Try.prog Try.f11) = f11 S C n x0 x1 H := by
  have h1 : acodeK S Try.prog C n 38 f11_c (env0 [x0, x1]) H (fin Try.prog Try.f11) = f11G S C n (fun env H => aloopK (acodeK S Try.prog C n 38 (cAt f11_c [1, 1, 1, 0, 1, 0, 0])) n env H (kAt S Try.prog C n 38 f11_c [1, 1, 1, 0, 1, 0] (fin Try.prog Try.f11))) x0 x1 H := by kernel_rfl
  have e0 : (fun env H => aloopK (acodeK S Try.prog C n 38 (cAt f11_c [1, 1, 1, 0, 1, 0, 0])) n env H (kAt S Try.prog C n 38 f11_c [1, 1, 1, 0, 1, 0] (fin Try.prog Try.f11))) = (fun env H => f11_L0 S C n n (env 0) (env 1) (env 6) (env 7) H) := by funext env H; exact f11_L0_eq S C n n env H
  rw [e0] at h1
  exact h1.trans (by kernel_rfl)


theorem f11_eq {gl : Bool} {E : Ext} (hE : E 11 = none) (n : Nat) (x0 : Value) (x1 : Value) (H : Heap) : acall Try.prog gl E (n + 1) 11 [x0, x1] H = f11 real (acall Try.prog gl E n) n x0 x1 H :=
  (acall_eq (N := 38) Try.func11 (by kernel_rfl) (by kernel_rfl) hE (okgl f11_c (by kernel_rfl)) (by kernel_rfl)).trans (f11_main real _ n x0 x1 H)

/-! incunable/incunableref04.Root -/
noncomputable def f12_c : Code := (Try.f12.body).getD .skip

noncomputable def f12_J1 (S : Seam (Value × Heap)) (C : CallF) (n : Nat) (R0 : Value→Value→Value→Value→Heap→Option (Value × Heap)) (y67 y68 y69 y70 : Value) (H71 : Heap) : Option (Value × Heap) :=
 S.b (up (binB Try.prog .sub 3 y70 (.int .i64 1)) H71) fun y72 H73 =>
 R0 y67 y68 y69 y72 H73

noncomputable def f12_L1 (S : Seam (Value × Heap)) (C : CallF) (n : Nat) (R0 : Value→Value→Value→Value→Heap→Option (Value × Heap)) : Nat → Value → Value → Value → Value → Value → Value → Value → Heap → Option (Value × Heap)
 | 0, _, _, _, _, _, _, _, _ => none
 | m + 1, y42, y43, y44, y45, y46, y47, y48, H49 =>
   S.b (up (binB Try.prog .lss 3 y48 y42) H49) fun y50 H51 =>
   S.i y50
   (S.b (C 30 [y46] H51) fun y52 H53 =>
    S.b (C 31 [y47, y52] H53) fun y54 H55 =>
    S.b (up (binB Try.prog .add 3 y48 (.int .i64 1)) H55) fun y56 H57 =>
    f12_L1 S C n R0 m y42 y43 y44 y45 y46 y54 y56 H57)
   (S.b (C 32 [y47, y43] H51) fun y58 H59 =>
    S.b (up (unB .not y58) H59) fun y60 H61 =>
    S.i y60
    (f12_J1 S C n R0 y42 y43 y46 y45 H61)
    (f12_J1 S C n R0 y42 y43 y44 y45 H61))

theorem f12_L1_eq (S : Seam (Value × Heap)) (C : CallF) (n : Nat) (R0 : Value→Value→Value→Value→Heap→Option (Value × Heap)) : ∀ (m : Nat) (env : Env) (H : Heap), aloopK (acodeK S Try.prog C n 60 (cAt f12_c [1, 1, 1, 1, 1, 0, 1, 0, 0, 1, 0, 0, 1, 1, 0, 1, 0, 0])) m env H (kAt S Try.prog C n 60 (cAt f12_c [1, 1, 1, 1, 1, 0, 1, 0, 0]) [1, 0, 0, 1, 1, 0, 1, 0] (onNormal (fun env' H' => R0 (env' 0) (env' 6) (env' 7) (env' 8) H') (kAt S Try.prog C n 60 f12_c [1, 1, 1, 1, 1, 0, 1, 0] (fin Try.prog Try.f12)))) = f12_L1 S C n R0 m (env 0) (env 6) (env 7) (env 8) (env 9) (env 10) (env 11) H := by
  intro m env H
  refine aloopK_eq (L := fun m env H => f12_L1 S C n R0 m (env 0) (env 6) (env 7) (env 8) (env 9) (env 10) (env 11) H) (fun env H => rfl) (fun m env H => ?_) m env H
  kernel_rfl


noncomputable def f12_L0 (S : Seam (Value × Heap)) (C : CallF) (n : Nat) : Nat → Value → Value → Value → Value → Heap → Option (Value × Heap)
 | 0, _, _, _, _, _ => none
 | m + 1, y29, y30, y31, y32, H33 =>
   S.b (up (binB Try.prog .geq 3 y32 (.int .i64 0)) H33) fun y34 H35 =>
   S.i y34
   (S.b (up (binB Try.prog .shl 3 (.int .i64 1) y32) H35) fun y36 H37 =>
    S.b (up (binB Try.prog .add 3 y31 y36) H37) fun y38 H39 =>
    S.b (C 30 [y38] H39) fun y40 H41 =>
    f12_L1 S C n (f12_L0 S C n m) n y29 y30 y31 y32 y38 y40 (.int .i64 1) H41)
   (S.b (up (binB Try.prog .and 3 y31 (.int .i64 4294967295)) H35) fun y74 H75 =>
    S.b (cvI .u32 y74 H75) fun y76 H77 =>
    some (.tuple #[y76, (.int .i64 0)], H77))

noncomputable def f12_L0G (S : Seam (Value × Heap)) (C : CallF) (n : Nat) (R0 : Value→Value→Value→Value→Heap→Option (Value × Heap)) (P1 : Env → Heap → Option (Value × Heap)) (env : Env) (H : Heap) : Option (Value × Heap) :=
 S.b (up (binB Try.prog .geq 3 (env 8) (.int .i64 0)) H) fun y78 H79 =>
 S.i y78
 (S.b (up (binB Try.prog .shl 3 (.int .i64 1) (env 8)) H79) fun y80 H81 =>
  S.b (up (binB Try.prog .add 3 (env 7) y80) H81) fun y82 H83 =>
  S.b (C 30 [y82] H83) fun y84 H85 =>
  P1 (putE 60 (putE 60 (putE 60 (putE 60 (putE 60 (putE 60 (putE 60 (putE 60 (putE 60 (putE 60 (putE 60 env (some 33) (env 8)) (some 34) y78) (some 37) (env 7)) (some 38) (env 8)) (some 39) y80) (some 40) y82) (some 9) y82) (some 41) y82) (some 42) y84) (some 10) y84) (some 11) (.int .i64 1)) H85)
 (S.b (up (binB Try.prog .and 3 (env 7) (.int .i64 4294967295)) H79) fun y86 H87 =>
  S.b (cvI .u32 y86 H87) fun y88 H89 =>
  some (.tuple #[y88, (.int .i64 0)], H89))

theorem f12_L0_eq (S : Seam (Value × Heap)) (C : CallF) (n : Nat) : ∀ (m : Nat) (env : Env) (H : Heap), aloopK (acodeK S Try.prog C n 60 (cAt f12_c [1, 1, 1, 1, 1, 0, 1, 0, 0])) m env H (kAt S Try.prog C n 60 f12_c [1, 1, 1, 1, 1, 0, 1, 0] (fin Try.prog Try.f12)) = f12_L0 S C n m (env 0) (env 6) (env 7) (env 8) H := by
  intro m env H
  refine aloopK_eq (L := fun m env H => f12_L0 S C n m (env 0) (env 6) (env 7) (env 8) H) (fun env H => rfl) (fun m env H => ?_) m env H
  have h1 : acodeK S Try.prog C n 60 (cAt f12_c [1, 1, 1, 1, 1, 0, 1, 0, 0]) env H (onNormal (fun env' H' => f12_L0 S C n m (env' 0) (env' 6) (env' 7) (env' 8) H') (kAt S Try.prog C n 60 f12_c [1, 1, 1, 1, 1, 0, 1, 0] (fin Try.prog Try.f12))) = f12_L0G S C n (f12_L0 S C n m) (fun env H => aloopK (acodeK S Try.prog C n 60 (cAt f12_c [1, 1, 1, 1, 1, 0, 1, 0, 0, 1, 0, 0, 1, 1, 0, 1, 0, 0])) n env H (kAt S Try.prog C n 60 (cAt f12_c [1, 1, 1, 1, 1, 0, 1, 0, 0]) [1, 0, 0, 1, 1, 0, 1, 0] (onNormal (fun env' H' => (f12_L0 S C n m) (env' 0) (env' 6) (env' 7) (env' 8) H') (kAt S Try.prog C n 60 f12_c [1, 1, 1, 1, 1, 0, 1, 0] (fin Try.prog Try.f12))))) env H := by kernel_rfl
  have e0 : (fun env H => aloopK (acodeK S Try.prog C n 60 (cAt f12_c [1, 1, 1, 1, 1, 0, 1, 0, 0, 1, 0, 0, 1, 1, 0, 1, 0, 0])) n env H (kAt S Try.prog C n 60 (cAt f12_c [1, 1, 1, 1, 1, 0, 1, 0, 0]) [1, 0, 0, 1, 1, 0, 1, 0] (onNormal (fun env' H' => (f12_L0 S C n m) (env' 0) (env' 6) (env' 7) (env' 8) H') (kAt S Try.prog C n 60 f12_c [1, 1, 1, 1, 1, 0, 1, 0] (fin Try.prog Try.f12))))) = (fun env H => f12_L1 S C n (f12_L0 S C n m) n (env 0) (env 6) (env 7) (env 8) (env 9) (env 10) (env 11) H) := by funext env H; exact f12_L1_eq S C n (f12_L0 S C n m) n env H
  rw [e0] at h1
  exact h1.trans (by kernel_rfl)


noncomputable def f12 (S : Seam (Value × Heap)) (C : CallF) (n : Nat) (x0 : Value) (x1 : Value) (H : Heap) : Option (Value × Heap) :=
 S.b (up (binB Try.prog .lss 3 x0 (.int .i64 2)) H) fun y1 H2 =>
 S.b (gd (wd y1 false) (some (x0, H2)) H2) fun y3 H4 =>
 S.b (gd (wd y1 false) (up (binB Try.prog .gtr 3 y3 (.int .i64 3)) H4) H4) fun y5 H6 =>
 S.b (pickV y1 (.bool true) y5 H6) fun y7 H8 =>
 S.b (gd (wd y7 false) (some (x1, H8)) H8) fun y9 H10 =>
 S.b (gd (wd y7 false) (up (binB Try.prog .lss 3 y9 (.int .i64 1)) H10) H10) fun y11 H12 =>
 S.b (pickV y7 (.bool true) y11 H12) fun y13 H14 =>
 S.b (gd (wd y13 false) (some (x1, H14)) H14) fun y15 H16 =>
 S.b (gd (wd y13 false) (up (binB Try.prog .gtr 3 y15 (.int .i64 1000)) H16) H16) fun y17 H18 =>
 S.b (pickV y13 (.bool true) y17 H18) fun y19 H20 =>
 S.i y19
 (some (.tuple #[(.int .u32 0), (.int .i64 2)], H20))
 (S.b (up (binB Try.prog .mul 3 (.int .i64 2) x0) H20) fun y21 H22 =>
  S.b (mkS 1 8 [(.int .i64 0)] y21 y21 H22) fun y23 H24 =>
  S.b (bldS 1 1 [(.int .i64 0)] [(0, 1, x1)] H24) fun y25 H26 =>
  S.b (app 1 8 y23 y25 H26) fun y27 H28 =>
  f12_L0 S C n n x0 y27 (.int .i64 0) (.int .i64 40) H28)

noncomputable def f12G (S : Seam (Value × Heap)) (C : CallF) (n : Nat) (P0 : Env → Heap → Option (Value × Heap)) (x0 : Value) (x1 : Value) (H : Heap) : Option (Value × Heap) :=
 S.b (up (binB Try.prog .lss 3 x0 (.int .i64 2)) H) fun y90 H91 =>
 S.b (gd (wd y90 false) (some (x0, H91)) H91) fun y92 H93 =>
 S.b (gd (wd y90 false) (up (binB Try.prog .gtr 3 y92 (.int .i64 3)) H93) H93) fun y94 H95 =>
 S.b (pickV y90 (.bool true) y94 H95) fun y96 H97 =>
 S.b (gd (wd y96 false) (some (x1, H97)) H97) fun y98 H99 =>
 S.b (gd (wd y96 false) (up (binB Try.prog .lss 3 y98 (.int .i64 1)) H99) H99) fun y100 H101 =>
 S.b (pickV y96 (.bool true) y100 H101) fun y102 H103 =>
 S.b (gd (wd y102 false) (some (x1, H103)) H103) fun y104 H105 =>
 S.b (gd (wd y102 false) (up (binB Try.prog .gtr 3 y104 (.int .i64 1000)) H105) H105) fun y106 H107 =>
 S.b (pickV y102 (.bool true) y106 H107) fun y108 H109 =>
 S.i y108
 (some (.tuple #[(.int .u32 0), (.int .i64 2)], H109))
 (S.b (up (binB Try.prog .mul 3 (.int .i64 2) x0) H109) fun y110 H111 =>
  S.b (mkS 1 8 [(.int .i64 0)] y110 y110 H111) fun y112 H113 =>
  S.b (bldS 1 1 [(.int .i64 0)] [(0, 1, x1)] H113) fun y114 H115 =>
  S.b (app 1 8 y112 y114 H115) fun y116 H117 =>
  P0 (putE 60 (putE 60 (putE 60 (putE 60 (putE 60 (putE 60 (putE 60 (putE 60 (putE 60 (putE 60 (putE 60 (putE 60 (putE 60 (putE 60 (putE 60 (putE 60 (putE 60 (putE 60 (putE 60 (putE 60 (putE 60 (putE 60 (putE 60 (putE 60 (putE 60 (putE 60 (putE 60 (env0 [x0, x1]) (some 4) (.int .u32 0)) (some 5) (.int .i64 0)) (some 12) x0) (some 13) y90) (some 14) y90) (some 15) y92) (some 16) y94) (some 17) y96) (some 18) y96) (some 19) y98) (some 20) y100) (some 21) y102) (some 22) y102) (some 23) y104) (some 24) y106) (some 25) y108) (some 26) x0) (some 27) y110) (some 28) y112) (some 6) y112) (some 29) y112) (some 30) x1) (some 31) y114) (some 32) y116) (some 6) y116) (some 7) (.int .i64 0)) (some 8) (.int .i64 40)) H117)

theorem f12_main (S : Seam (Value × Heap)) (C : CallF) (n : Nat) (x0 : Value) (x1 : Value) (H : Heap) : acodeK S Try.prog C n 60 f12_c (env0 [x0, x1]) H (fin Try.prog Try.f12) = f12 S C n x0 x1 H := by
  have h1 : acodeK S Try.prog C n 60 f12_c (env0 [x0, x1]) H (fin Try.prog Try.f12) = f12G S C n (fun env H => aloopK (acodeK S Try.prog C n 60 (cAt f12_c [1, 1, 1, 1, 1, 0, 1, 0, 0])) n env H (kAt S Try.prog C n 60 f12_c [1, 1, 1, 1, 1, 0, 1, 0] (fin Try.prog Try.f12))) x0 x1 H := by kernel_rfl
  have e0 : (fun env H => aloopK (acodeK S Try.prog C n 60 (cAt f12_c [1, 1, 1, 1, 1, 0, 1, 0, 0])) n env H (kAt S Try.prog C n 60 f12_c [1, 1, 1, 1, 1, 0, 1, 0] (fin Try.prog Try.f12))) = (fun env H => f12_L0 S C n n (env 0) (env 6) (env 7) (env 8) H) := by funext env H; exact f12_L0_eq S C n n env H
  rw [e0] at h1
  exact h1.trans (by kernel_rfl)


theorem f12_eq {gl : Bool} {E : Ext} (hE : E 12 = none) (n : Nat) (x0 : Value) (x1 : Value) (H : Heap) : acall Try.prog gl E (n + 1) 12 [x0, x1] H = f12 real (acall Try.prog gl E n) n x0 x1 H :=
  (acall_eq (N := 60) Try.func12 (by kernel_rfl) (by kernel_rfl) hE (okgl f12_c (by kernel_rfl)) (by kernel_rfl)).trans (f12_main real _ n x0 x1 H)

/-! incunable/incunablelaw04.awake -/
noncomputable def f13_c : Code := (Try.f13.body).getD .skip

noncomputable def f13 (S : Seam (Value × Heap)) (C : CallF) (n : Nat) (H : Heap) : Option (Value × Heap) :=
 S.b (C 11 [(.int .i64 2), (.int .i64 0)] H) fun y1 H2 =>
 S.b (extr 0 y1 H2) fun y3 H4 =>
 S.b (extr 1 y1 H4) fun y5 H6 =>
 S.b (C 24 [(.int .i64 2), (.int .i64 2), (.int .u32 1779033703)] H6) fun y7 H8 =>
 S.b (gd (wd y7 true) (C 24 [(.int .i64 3), (.int .i64 2), (.int .u32 1116352408)] H8) H8) fun y9 H10 =>
 S.b (pickV y7 y9 (.bool false) H10) fun y11 H12 =>
 S.b (gd (wd y11 true) (C 24 [(.int .i64 2), (.int .i64 4), (.int .u32 0)] H12) H12) fun y13 H14 =>
 S.b (pickV y11 y13 (.bool false) H14) fun y15 H16 =>
 S.b (gd (wd y15 true) (some (y5, H16)) H16) fun y17 H18 =>
 S.b (gd (wd y15 true) (up (binB Try.prog .eql 23 y17 (.int .i64 2)) H18) H18) fun y19 H20 =>
 S.b (pickV y15 y19 (.bool false) H20) fun y21 H22 =>
 S.b (gd (wd y21 true) (C 18 [(.slice none 0 0)] H22) H22) fun y23 H24 =>
 S.b (gd (wd y21 true) (C 27 [y23] H24) H24) fun y25 H26 =>
 S.b (gd (wd y21 true) (up (binB Try.prog .eql 9 y25 (.string ⟨#[101, 51, 98, 48, 99, 52, 52, 50, 57, 56, 102, 99, 49, 99, 49, 52, 57, 97, 102, 98, 102, 52, 99, 56, 57, 57, 54, 102, 98, 57, 50, 52, 50, 55, 97, 101, 52, 49, 101, 52, 54, 52, 57, 98, 57, 51, 52, 99, 97, 52, 57, 53, 57, 57, 49, 98, 55, 56, 53, 50, 98, 56, 53, 53]⟩)) H26) H26) fun y27 H28 =>
 S.b (pickV y21 y27 (.bool false) H28) fun y29 H30 =>
 S.b (gd (wd y29 true) (bldS 1 3 [(.int .u8 0)] [(0, 1, (.int .u8 97)), (1, 1, (.int .u8 98)), (2, 1, (.int .u8 99))] H30) H30) fun y31 H32 =>
 S.b (gd (wd y29 true) (markV y31 H32) H32) fun y33 H34 =>
 S.b (gd (wd y29 true) (C 18 [y33] H34) H34) fun y35 H36 =>
 S.b (gd (wd y29 true) (C 27 [y35] H36) H36) fun y37 H38 =>
 S.b (gd (wd y29 true) (up (binB Try.prog .eql 9 y37 (.string ⟨#[98, 97, 55, 56, 49, 54, 98, 102, 56, 102, 48, 49, 99, 102, 101, 97, 52, 49, 52, 49, 52, 48, 100, 101, 53, 100, 97, 101, 50, 50, 50, 51, 98, 48, 48, 51, 54, 49, 97, 51, 57, 54, 49, 55, 55, 97, 57, 99, 98, 52, 49, 48, 102, 102, 54, 49, 102, 50, 48, 48, 49, 53, 97, 100]⟩)) H38) H38) fun y39 H40 =>
 S.b (pickV y29 y39 (.bool false) H40) fun y41 H42 =>
 some (y41, H42)

theorem f13_main (S : Seam (Value × Heap)) (C : CallF) (n : Nat) (H : Heap) : acodeK S Try.prog C n 32 f13_c (env0 []) H (fin Try.prog Try.f13) = f13 S C n H := by
  kernel_rfl


theorem f13_eq {gl : Bool} {E : Ext} (hE : E 13 = none) (n : Nat) (H : Heap) : acall Try.prog gl E (n + 1) 13 [] H = f13 real (acall Try.prog gl E n) n H :=
  (acall_eq (N := 32) Try.func13 (by kernel_rfl) (by kernel_rfl) hE (okgl f13_c (by kernel_rfl)) (by kernel_rfl)).trans (f13_main real _ n H)

/-! incunable/incunableref00.CopyBytes -/
noncomputable def f14_c : Code := (Try.f14.body).getD .skip

noncomputable def f14 (S : Seam (Value × Heap)) (C : CallF) (n : Nat) (x0 : Value) (H : Heap) : Option (Value × Heap) :=
 S.b (app 1 1 (.slice none 0 0) x0 H) fun y1 H2 =>
 some (y1, H2)

theorem f14_main (S : Seam (Value × Heap)) (C : CallF) (n : Nat) (x0 : Value) (H : Heap) : acodeK S Try.prog C n 8 f14_c (env0 [x0]) H (fin Try.prog Try.f14) = f14 S C n x0 H := by
  kernel_rfl


theorem f14_eq {gl : Bool} {E : Ext} (hE : E 14 = none) (n : Nat) (x0 : Value) (H : Heap) : acall Try.prog gl E (n + 1) 14 [x0] H = f14 real (acall Try.prog gl E n) n x0 H :=
  (acall_eq (N := 8) Try.func14 (by kernel_rfl) (by kernel_rfl) hE (okgl f14_c (by kernel_rfl)) (by kernel_rfl)).trans (f14_main real _ n x0 H)

/-! incunable/sha.Block -/
noncomputable def f15_c : Code := (Try.f15.body).getD .skip

noncomputable def f15_L0 (S : Seam (Value × Heap)) (C : CallF) (n : Nat) : Nat → Value → Value → Value → Value → Value → Value → Value → Value → Value → Value → Value → Value → Value → Heap → Option (Value × Heap)
 | 0, _, _, _, _, _, _, _, _, _, _, _, _, _, _ => none
 | m + 1, y54, y55, y56, y57, y58, y59, y60, y61, y62, y63, y64, y65, y66, H67 =>
   S.b (up (binB Try.prog .lss 3 y66 (.int .i64 64)) H67) fun y68 H69 =>
   S.i y68
   (S.b (C 35 [y62, (.int .i64 6)] H69) fun y70 H71 =>
    S.c true (S.b (C 35 [y62, (.int .i64 11)] H71) fun y72 H73 =>
     S.c true (S.b (up (binB Try.prog .xor 22 y70 y72) H73) fun y74 H75 =>
      S.b (C 35 [y62, (.int .i64 25)] H75) fun y76 H77 =>
      S.c true (S.b (up (binB Try.prog .xor 22 y74 y76) H77) fun y78 H79 =>
       S.b (up (binB Try.prog .add 22 y65 y78) H79) fun y80 H81 =>
       S.b (up (binB Try.prog .and 22 y62 y63) H81) fun y82 H83 =>
       S.b (up (unB .xor y62) H83) fun y84 H85 =>
       S.b (up (binB Try.prog .and 22 y84 y64) H85) fun y86 H87 =>
       S.b (up (binB Try.prog .xor 22 y82 y86) H87) fun y88 H89 =>
       S.b (up (binB Try.prog .add 22 y80 y88) H89) fun y90 H91 =>
       S.b (up (iAddrA 64 1 y56 y66) H91) fun y92 H93 =>
       S.c ((sameBlk H75 H77 (blkOf y92)) && ((sameBlk H71 H73 (blkOf y92)) && ((sameBlk H69 H71 (blkOf y92)) && true))) (S.b (ldC y92 H93) fun y94 H95 =>
       S.b (up (binB Try.prog .add 22 y90 y94) H95) fun y96 H97 =>
       S.b (up (iAddrA 64 1 y57 y66) H97) fun y98 H99 =>
       S.c ((sameBlk H75 H77 (blkOf y98)) && ((sameBlk H71 H73 (blkOf y98)) && ((sameBlk H69 H71 (blkOf y98)) && true))) (S.b (ldC y98 H99) fun y100 H101 =>
       S.b (up (binB Try.prog .add 22 y96 y100) H101) fun y102 H103 =>
       S.b (C 35 [y58, (.int .i64 2)] H103) fun y104 H105 =>
       S.b (C 35 [y58, (.int .i64 13)] H105) fun y106 H107 =>
       S.b (up (binB Try.prog .xor 22 y104 y106) H107) fun y108 H109 =>
       S.b (C 35 [y58, (.int .i64 22)] H109) fun y110 H111 =>
       S.b (up (binB Try.prog .xor 22 y108 y110) H111) fun y112 H113 =>
       S.b (up (binB Try.prog .and 22 y58 y59) H113) fun y114 H115 =>
       S.b (up (binB Try.prog .and 22 y58 y60) H115) fun y116 H117 =>
       S.b (up (binB Try.prog .xor 22 y114 y116) H117) fun y118 H119 =>
       S.b (up (binB Try.prog .and 22 y59 y60) H119) fun y120 H121 =>
       S.b (up (binB Try.prog .xor 22 y118 y120) H121) fun y122 H123 =>
       S.b (up (binB Try.prog .add 22 y112 y122) H123) fun y124 H125 =>
       S.b (up (binB Try.prog .add 22 y102 y124) H125) fun y126 H127 =>
       S.b (up (binB Try.prog .add 22 y61 y102) H127) fun y128 H129 =>
       S.b (up (binB Try.prog .add 3 y66 (.int .i64 1)) H129) fun y130 H131 =>
       f15_L0 S C n m y54 y55 y56 y57 y126 y58 y59 y60 y128 y62 y63 y64 y130 H131))))))
   (S.b (up (iAddrA 8 1 y54 (.int .i64 0)) H69) fun y132 H133 =>
    S.b (ldC y132 H133) fun y134 H135 =>
    S.b (up (binB Try.prog .add 22 y134 y58) H135) fun y136 H137 =>
    S.b (up (iAddrA 8 1 y54 (.int .i64 1)) H137) fun y138 H139 =>
    S.b (ldC y138 H139) fun y140 H141 =>
    S.b (up (binB Try.prog .add 22 y140 y59) H141) fun y142 H143 =>
    S.b (up (iAddrA 8 1 y54 (.int .i64 2)) H143) fun y144 H145 =>
    S.b (ldC y144 H145) fun y146 H147 =>
    S.b (up (binB Try.prog .add 22 y146 y60) H147) fun y148 H149 =>
    S.b (up (iAddrA 8 1 y54 (.int .i64 3)) H149) fun y150 H151 =>
    S.b (ldC y150 H151) fun y152 H153 =>
    S.b (up (binB Try.prog .add 22 y152 y61) H153) fun y154 H155 =>
    S.b (up (iAddrA 8 1 y54 (.int .i64 4)) H155) fun y156 H157 =>
    S.b (ldC y156 H157) fun y158 H159 =>
    S.b (up (binB Try.prog .add 22 y158 y62) H159) fun y160 H161 =>
    S.b (up (iAddrA 8 1 y54 (.int .i64 5)) H161) fun y162 H163 =>
    S.b (ldC y162 H163) fun y164 H165 =>
    S.b (up (binB Try.prog .add 22 y164 y63) H165) fun y166 H167 =>
    S.b (up (iAddrA 8 1 y54 (.int .i64 6)) H167) fun y168 H169 =>
    S.b (ldC y168 H169) fun y170 H171 =>
    S.b (up (binB Try.prog .add 22 y170 y64) H171) fun y172 H173 =>
    S.b (up (iAddrA 8 1 y54 (.int .i64 7)) H173) fun y174 H175 =>
    S.b (ldC y174 H175) fun y176 H177 =>
    S.b (up (binB Try.prog .add 22 y176 y65) H177) fun y178 H179 =>
    S.b (bld [(.int .u32 0), (.int .u32 0), (.int .u32 0), (.int .u32 0), (.int .u32 0), (.int .u32 0), (.int .u32 0), (.int .u32 0)] [(0, 1, y136), (1, 1, y142), (2, 1, y148), (3, 1, y154), (4, 1, y160), (5, 1, y166), (6, 1, y172), (7, 1, y178)] H179) fun y180 H181 =>
    S.b (stV 8 y55 y180 H181) fun _ H182 =>
    (resM [(ldA 8 y55 H182).map (·.1), some (.int .i64 0)]).map fun l => (one l, H182))

theorem f15_L0_eq (S : Seam (Value × Heap)) (C : CallF) (n : Nat) : ∀ (m : Nat) (env : Env) (H : Heap), aloopK (acodeK S Try.prog C n 138 (cAt f15_c [1, 1, 1, 1, 0, 1, 0, 0])) m env H (kAt S Try.prog C n 138 f15_c [1, 1, 1, 1, 0, 1, 0] (fin Try.prog Try.f15)) = f15_L0 S C n m (env 2) (env 4) (env 6) (env 7) (env 8) (env 9) (env 10) (env 11) (env 12) (env 13) (env 14) (env 15) (env 42) H := by
  intro m env H
  refine aloopK_eq (L := fun m env H => f15_L0 S C n m (env 2) (env 4) (env 6) (env 7) (env 8) (env 9) (env 10) (env 11) (env 12) (env 13) (env 14) (env 15) (env 42) H) (fun env H => rfl) (fun m env H => ?_) m env H
  kernel_rfl


noncomputable def f15 (S : Seam (Value × Heap)) (C : CallF) (n : Nat) (x0 : Value) (x1 : Value) (H : Heap) : Option (Value × Heap) :=
 S.b (newV (Value.cells x0).toList H) fun y1 H2 =>
 S.b (newV [(.int .u32 0), (.int .u32 0), (.int .u32 0), (.int .u32 0), (.int .u32 0), (.int .u32 0), (.int .u32 0), (.int .u32 0)] H2) fun y3 H4 =>
 S.b (up (lenS x1) H4) fun y5 H6 =>
 S.b (up (binB Try.prog .neq 3 y5 (.int .i64 64)) H6) fun y7 H8 =>
 S.i y7
 (S.b (bld [(.int .u32 0), (.int .u32 0), (.int .u32 0), (.int .u32 0), (.int .u32 0), (.int .u32 0), (.int .u32 0), (.int .u32 0)] [] H8) fun y9 H10 =>
  S.b (stV 8 y3 y9 H10) fun _ H11 =>
  (resM [(ldA 8 y3 H11).map (·.1), some (.int .i64 2)]).map fun l => (one l, H11))
 (S.b (C 33 [] H8) fun y12 H13 =>
  S.b (C 34 [x1] H13) fun y14 H15 =>
  S.b (newV (rep 64 [(.int .u32 0)]) H15) fun y16 H17 =>
  S.b (newV (rep 64 [(.int .u32 0)]) H17) fun y18 H19 =>
  S.b (stV 64 y16 y12 H19) fun _ H20 =>
  S.b (stV 64 y18 y14 H20) fun _ H21 =>
  S.b (up (iAddrA 8 1 y1 (.int .i64 0)) H21) fun y22 H23 =>
  S.c true (S.b (ldC y22 H23) fun y24 H25 =>
  S.b (up (iAddrA 8 1 y1 (.int .i64 1)) H25) fun y26 H27 =>
  S.c true (S.b (ldC y26 H27) fun y28 H29 =>
  S.b (up (iAddrA 8 1 y1 (.int .i64 2)) H29) fun y30 H31 =>
  S.c true (S.b (ldC y30 H31) fun y32 H33 =>
  S.b (up (iAddrA 8 1 y1 (.int .i64 3)) H33) fun y34 H35 =>
  S.c true (S.b (ldC y34 H35) fun y36 H37 =>
  S.b (up (iAddrA 8 1 y1 (.int .i64 4)) H37) fun y38 H39 =>
  S.c true (S.b (ldC y38 H39) fun y40 H41 =>
  S.b (up (iAddrA 8 1 y1 (.int .i64 5)) H41) fun y42 H43 =>
  S.c true (S.b (ldC y42 H43) fun y44 H45 =>
  S.b (up (iAddrA 8 1 y1 (.int .i64 6)) H45) fun y46 H47 =>
  S.c true (S.b (ldC y46 H47) fun y48 H49 =>
  S.b (up (iAddrA 8 1 y1 (.int .i64 7)) H49) fun y50 H51 =>
  S.c true (S.b (ldC y50 H51) fun y52 H53 =>
  f15_L0 S C n n y1 y3 y16 y18 y24 y28 y32 y36 y40 y44 y48 y52 (.int .i64 0) H53)))))))))

noncomputable def f15G (S : Seam (Value × Heap)) (C : CallF) (n : Nat) (P0 : Env → Heap → Option (Value × Heap)) (x0 : Value) (x1 : Value) (H : Heap) : Option (Value × Heap) :=
 S.b (newV (Value.cells x0).toList H) fun y183 H184 =>
 S.b (newV [(.int .u32 0), (.int .u32 0), (.int .u32 0), (.int .u32 0), (.int .u32 0), (.int .u32 0), (.int .u32 0), (.int .u32 0)] H184) fun y185 H186 =>
 S.b (up (lenS x1) H186) fun y187 H188 =>
 S.b (up (binB Try.prog .neq 3 y187 (.int .i64 64)) H188) fun y189 H190 =>
 S.i y189
 (S.b (bld [(.int .u32 0), (.int .u32 0), (.int .u32 0), (.int .u32 0), (.int .u32 0), (.int .u32 0), (.int .u32 0), (.int .u32 0)] [] H190) fun y191 H192 =>
  S.b (stV 8 y185 y191 H192) fun u193 H194 =>
  (resM [(ldA 8 y185 H194).map (·.1), some (.int .i64 2)]).map fun l => (one l, H194))
 (S.b (C 33 [] H190) fun y195 H196 =>
  S.b (C 34 [x1] H196) fun y197 H198 =>
  S.b (newV (rep 64 [(.int .u32 0)]) H198) fun y199 H200 =>
  S.b (newV (rep 64 [(.int .u32 0)]) H200) fun y201 H202 =>
  S.b (stV 64 y199 y195 H202) fun u203 H204 =>
  S.b (stV 64 y201 y197 H204) fun u205 H206 =>
  S.b (up (iAddrA 8 1 y183 (.int .i64 0)) H206) fun y207 H208 =>
  S.c true (S.b (ldC y207 H208) fun y209 H210 =>
  S.b (up (iAddrA 8 1 y183 (.int .i64 1)) H210) fun y211 H212 =>
  S.c true (S.b (ldC y211 H212) fun y213 H214 =>
  S.b (up (iAddrA 8 1 y183 (.int .i64 2)) H214) fun y215 H216 =>
  S.c true (S.b (ldC y215 H216) fun y217 H218 =>
  S.b (up (iAddrA 8 1 y183 (.int .i64 3)) H218) fun y219 H220 =>
  S.c true (S.b (ldC y219 H220) fun y221 H222 =>
  S.b (up (iAddrA 8 1 y183 (.int .i64 4)) H222) fun y223 H224 =>
  S.c true (S.b (ldC y223 H224) fun y225 H226 =>
  S.b (up (iAddrA 8 1 y183 (.int .i64 5)) H226) fun y227 H228 =>
  S.c true (S.b (ldC y227 H228) fun y229 H230 =>
  S.b (up (iAddrA 8 1 y183 (.int .i64 6)) H230) fun y231 H232 =>
  S.c true (S.b (ldC y231 H232) fun y233 H234 =>
  S.b (up (iAddrA 8 1 y183 (.int .i64 7)) H234) fun y235 H236 =>
  S.c true (S.b (ldC y235 H236) fun y237 H238 =>
  P0 (putE 138 (putE 138 (putE 138 (putE 138 (putE 138 (putE 138 (putE 138 (putE 138 (putE 138 (putE 138 (putE 138 (putE 138 (putE 138 (putE 138 (putE 138 (putE 138 (putE 138 (putE 138 (putE 138 (putE 138 (putE 138 (putE 138 (putE 138 (putE 138 (putE 138 (putE 138 (putE 138 (putE 138 (putE 138 (putE 138 (putE 138 (putE 138 (putE 138 (putE 138 (putE 138 (putE 138 (putE 138 (putE 138 (env0 [x0, x1]) (some 2) y183) (some 4) y185) (some 5) (.int .i64 0)) (some 19) x1) (some 20) y187) (some 21) y189) (some 23) y195) (some 24) x1) (some 25) y197) (some 6) y199) (some 7) y201) none u203) none u205) (some 26) y207) (some 27) y209) (some 28) y211) (some 29) y213) (some 30) y215) (some 31) y217) (some 32) y219) (some 33) y221) (some 34) y223) (some 35) y225) (some 36) y227) (some 37) y229) (some 38) y231) (some 39) y233) (some 40) y235) (some 41) y237) (some 8) y209) (some 9) y213) (some 10) y217) (some 11) y221) (some 12) y225) (some 13) y229) (some 14) y233) (some 15) y237) (some 42) (.int .i64 0)) H238)))))))))

theorem f15_main (S : Seam (Value × Heap)) (C : CallF) (n : Nat) (x0 : Value) (x1 : Value) (H : Heap) : acodeK S Try.prog C n 138 f15_c (env0 [x0, x1]) H (fin Try.prog Try.f15) = f15 S C n x0 x1 H := by
  have h1 : acodeK S Try.prog C n 138 f15_c (env0 [x0, x1]) H (fin Try.prog Try.f15) = f15G S C n (fun env H => aloopK (acodeK S Try.prog C n 138 (cAt f15_c [1, 1, 1, 1, 0, 1, 0, 0])) n env H (kAt S Try.prog C n 138 f15_c [1, 1, 1, 1, 0, 1, 0] (fin Try.prog Try.f15))) x0 x1 H := by kernel_rfl
  have e0 : (fun env H => aloopK (acodeK S Try.prog C n 138 (cAt f15_c [1, 1, 1, 1, 0, 1, 0, 0])) n env H (kAt S Try.prog C n 138 f15_c [1, 1, 1, 1, 0, 1, 0] (fin Try.prog Try.f15))) = (fun env H => f15_L0 S C n n (env 2) (env 4) (env 6) (env 7) (env 8) (env 9) (env 10) (env 11) (env 12) (env 13) (env 14) (env 15) (env 42) H) := by funext env H; exact f15_L0_eq S C n n env H
  rw [e0] at h1
  exact h1.trans (by kernel_rfl)


theorem f15_eq {gl : Bool} {E : Ext} (hE : E 15 = none) (n : Nat) (x0 : Value) (x1 : Value) (H : Heap) : acall Try.prog gl E (n + 1) 15 [x0, x1] H = f15 real (acall Try.prog gl E n) n x0 x1 H :=
  (acall_eq (N := 138) Try.func15 (by kernel_rfl) (by kernel_rfl) hE (okgl f15_c (by kernel_rfl)) (by kernel_rfl)).trans (f15_main real _ n x0 x1 H)

/-! incunable/incunableref04.Block -/
noncomputable def f16_c : Code := (Try.f16.body).getD .skip

noncomputable def f16 (S : Seam (Value × Heap)) (C : CallF) (n : Nat) (x0 : Value) (x1 : Value) (H : Heap) : Option (Value × Heap) :=
 S.b (newV (Value.cells x0).toList H) fun y1 H2 =>
 S.b (newV [(.int .u32 0), (.int .u32 0), (.int .u32 0), (.int .u32 0), (.int .u32 0), (.int .u32 0), (.int .u32 0), (.int .u32 0)] H2) fun y3 H4 =>
 S.b (up (lenS x1) H4) fun y5 H6 =>
 S.b (up (binB Try.prog .neq 3 y5 (.int .i64 64)) H6) fun y7 H8 =>
 S.i y7
 (S.b (bld [(.int .u32 0), (.int .u32 0), (.int .u32 0), (.int .u32 0), (.int .u32 0), (.int .u32 0), (.int .u32 0), (.int .u32 0)] [] H8) fun y9 H10 =>
  S.b (stV 8 y3 y9 H10) fun _ H11 =>
  (resM [(ldA 8 y3 H11).map (·.1), some (.int .i64 2)]).map fun l => (one l, H11))
 (S.c true (S.b (ldA 8 y1 H8) fun y12 H13 =>
  S.b (C 37 [x1] H13) fun y14 H15 =>
  S.c (sameBlk H13 H15 (blkOf y1) && true) (S.b (C 38 [(.int .i64 3), (.int .i64 64)] H15) fun y16 H17 =>
   S.c (sameBlk H15 H17 (blkOf y1) && true) (S.b (C 36 [y12, y14, y16] H17) fun y18 H19 =>
    S.c true (S.b (stV 8 y3 y18 H19) fun _ H20 =>
     S.c true ((resM [(ldA 8 y3 H20).map (·.1), some (.int .i64 0)]).map fun l => (one l, H20)))))))

theorem f16_main (S : Seam (Value × Heap)) (C : CallF) (n : Nat) (x0 : Value) (x1 : Value) (H : Heap) : acodeK S Try.prog C n 15 f16_c (env0 [x0, x1]) H (fin Try.prog Try.f16) = f16 S C n x0 x1 H := by
  kernel_rfl


theorem f16_eq {gl : Bool} {E : Ext} (hE : E 16 = none) (n : Nat) (x0 : Value) (x1 : Value) (H : Heap) : acall Try.prog gl E (n + 1) 16 [x0, x1] H = f16 real (acall Try.prog gl E n) n x0 x1 H :=
  (acall_eq (N := 15) Try.func16 (by kernel_rfl) (by kernel_rfl) hE (okgl f16_c (by kernel_rfl)) (by kernel_rfl)).trans (f16_main real _ n x0 x1 H)

/-! incunable/incunableref00.EqBytes -/
noncomputable def f17_c : Code := (Try.f17.body).getD .skip

noncomputable def f17_L0 (S : Seam (Value × Heap)) (C : CallF) (n : Nat) : Nat → Value → Value → Value → Heap → Option (Value × Heap)
 | 0, _, _, _, _ => none
 | m + 1, y7, y8, y9, H10 =>
   S.b (up (lenS y7) H10) fun y11 H12 =>
   S.b (up (binB Try.prog .lss 3 y9 y11) H12) fun y13 H14 =>
   S.i y13
   (S.b (up (iAddrS 1 y7 y9) H14) fun y15 H16 =>
    S.c true (S.b (ldC y15 H16) fun y17 H18 =>
    S.b (up (iAddrS 1 y8 y9) H18) fun y19 H20 =>
    S.c true (S.b (ldC y19 H20) fun y21 H22 =>
    S.b (up (binB Try.prog .neq 5 y17 y21) H22) fun y23 H24 =>
    S.i y23
    (some ((.bool false), H24))
    (S.b (up (binB Try.prog .add 3 y9 (.int .i64 1)) H24) fun y25 H26 =>
     f17_L0 S C n m y7 y8 y25 H26))))
   (some ((.bool true), H14))

theorem f17_L0_eq (S : Seam (Value × Heap)) (C : CallF) (n : Nat) : ∀ (m : Nat) (env : Env) (H : Heap), aloopK (acodeK S Try.prog C n 26 (cAt f17_c [1, 1, 0, 1, 0, 0])) m env H (kAt S Try.prog C n 26 f17_c [1, 1, 0, 1, 0] (fin Try.prog Try.f17)) = f17_L0 S C n m (env 0) (env 1) (env 5) H := by
  intro m env H
  refine aloopK_eq (L := fun m env H => f17_L0 S C n m (env 0) (env 1) (env 5) H) (fun env H => rfl) (fun m env H => ?_) m env H
  kernel_rfl


noncomputable def f17 (S : Seam (Value × Heap)) (C : CallF) (n : Nat) (x0 : Value) (x1 : Value) (H : Heap) : Option (Value × Heap) :=
 S.b (up (lenS x0) H) fun y1 H2 =>
 S.b (up (lenS x1) H2) fun y3 H4 =>
 S.b (up (binB Try.prog .neq 3 y1 y3) H4) fun y5 H6 =>
 S.i y5
 (some ((.bool false), H6))
 (f17_L0 S C n n x0 x1 (.int .i64 0) H6)

noncomputable def f17G (S : Seam (Value × Heap)) (C : CallF) (n : Nat) (P0 : Env → Heap → Option (Value × Heap)) (x0 : Value) (x1 : Value) (H : Heap) : Option (Value × Heap) :=
 S.b (up (lenS x0) H) fun y27 H28 =>
 S.b (up (lenS x1) H28) fun y29 H30 =>
 S.b (up (binB Try.prog .neq 3 y27 y29) H30) fun y31 H32 =>
 S.i y31
 (some ((.bool false), H32))
 (P0 (putE 26 (putE 26 (putE 26 (putE 26 (putE 26 (putE 26 (putE 26 (env0 [x0, x1]) (some 4) (.bool false)) (some 6) x0) (some 7) y27) (some 8) x1) (some 9) y29) (some 10) y31) (some 5) (.int .i64 0)) H32)

theorem f17_main (S : Seam (Value × Heap)) (C : CallF) (n : Nat) (x0 : Value) (x1 : Value) (H : Heap) : acodeK S Try.prog C n 26 f17_c (env0 [x0, x1]) H (fin Try.prog Try.f17) = f17 S C n x0 x1 H := by
  have h1 : acodeK S Try.prog C n 26 f17_c (env0 [x0, x1]) H (fin Try.prog Try.f17) = f17G S C n (fun env H => aloopK (acodeK S Try.prog C n 26 (cAt f17_c [1, 1, 0, 1, 0, 0])) n env H (kAt S Try.prog C n 26 f17_c [1, 1, 0, 1, 0] (fin Try.prog Try.f17))) x0 x1 H := by kernel_rfl
  have e0 : (fun env H => aloopK (acodeK S Try.prog C n 26 (cAt f17_c [1, 1, 0, 1, 0, 0])) n env H (kAt S Try.prog C n 26 f17_c [1, 1, 0, 1, 0] (fin Try.prog Try.f17))) = (fun env H => f17_L0 S C n n (env 0) (env 1) (env 5) H) := by funext env H; exact f17_L0_eq S C n n env H
  rw [e0] at h1
  exact h1.trans (by kernel_rfl)


theorem f17_eq {gl : Bool} {E : Ext} (hE : E 17 = none) (n : Nat) (x0 : Value) (x1 : Value) (H : Heap) : acall Try.prog gl E (n + 1) 17 [x0, x1] H = f17 real (acall Try.prog gl E n) n x0 x1 H :=
  (acall_eq (N := 26) Try.func17 (by kernel_rfl) (by kernel_rfl) hE (okgl f17_c (by kernel_rfl)) (by kernel_rfl)).trans (f17_main real _ n x0 x1 H)

/-! incunable/sha.Of -/
noncomputable def f18_c : Code := (Try.f18.body).getD .skip

noncomputable def f18_L1 (S : Seam (Value × Heap)) (C : CallF) (n : Nat) : Nat → Value → Value → Value → Heap → Option (Value × Heap)
 | 0, _, _, _, _ => none
 | m + 1, y31, y32, y33, H34 =>
   S.b (up (binB Try.prog .lss 3 y33 (.int .i64 32)) H34) fun y35 H36 =>
   S.i y35
   (S.b (up (binB Try.prog .quo 3 y33 (.int .i64 4)) H36) fun y37 H38 =>
    S.b (up (iAddrA 8 1 y32 y37) H38) fun y39 H40 =>
    S.b (ldC y39 H40) fun y41 H42 =>
    S.b (up (binB Try.prog .rem 3 y33 (.int .i64 4)) H42) fun y43 H44 =>
    S.b (up (binB Try.prog .sub 3 (.int .i64 3) y43) H44) fun y45 H46 =>
    S.b (up (binB Try.prog .mul 3 (.int .i64 8) y45) H46) fun y47 H48 =>
    S.b (up (binB Try.prog .shr 22 y41 y47) H48) fun y49 H50 =>
    S.b (cvI .u8 y49 H50) fun y51 H52 =>
    S.b (up (iAddrA 32 1 y31 y33) H52) fun y53 H54 =>
    S.b (stV 1 y53 y51 H54) fun _ H55 =>
    S.b (up (binB Try.prog .add 3 y33 (.int .i64 1)) H55) fun y56 H57 =>
    f18_L1 S C n m y31 y32 y56 H57)
   (S.b (ldA 32 y31 H36) fun y58 H59 =>
    S.b (stV 32 y31 y58 H59) fun _ H60 =>
    (resM [(ldA 32 y31 H60).map (·.1)]).map fun l => (one l, H60))

theorem f18_L1_eq (S : Seam (Value × Heap)) (C : CallF) (n : Nat) : ∀ (m : Nat) (env : Env) (H : Heap), aloopK (acodeK S Try.prog C n 38 (cAt f18_c [1, 1, 1, 0, 1, 0, 0])) m env H (kAt S Try.prog C n 38 f18_c [1, 1, 1, 0, 1, 0] (fin Try.prog Try.f18)) = f18_L1 S C n m (env 2) (env 3) (env 21) H := by
  intro m env H
  refine aloopK_eq (L := fun m env H => f18_L1 S C n m (env 2) (env 3) (env 21) H) (fun env H => rfl) (fun m env H => ?_) m env H
  kernel_rfl


noncomputable def f18_L0 (S : Seam (Value × Heap)) (C : CallF) (n : Nat) : Nat → Value → Value → Value → Heap → Option (Value × Heap)
 | 0, _, _, _, _ => none
 | m + 1, y10, y11, y12, H13 =>
   S.b (up (lenS y12) H13) fun y14 H15 =>
   S.b (up (binB Try.prog .gtr 3 y14 (.int .i64 0)) H15) fun y16 H17 =>
   S.i y16
   (S.c true (S.b (ldA 8 y11 H17) fun y18 H19 =>
    S.b (up (slcS 1 y12 none (some (.int .i64 64)) none) H19) fun y20 H21 =>
    S.b (C 15 [y18, y20] H21) fun y22 H23 =>
    S.c true (S.b (extr 0 y22 H23) fun y24 H25 =>
     S.b (extr 1 y22 H25) fun y26 H27 =>
     S.b (stV 8 y11 y24 H27) fun _ H28 =>
     S.c true (S.b (up (slcS 1 y12 (some (.int .i64 64)) none none) H28) fun y29 H30 =>
      f18_L0 S C n m y10 y11 y29 H30))))
   (f18_L1 S C n n y10 y11 (.int .i64 0) H17)

noncomputable def f18_L0G (S : Seam (Value × Heap)) (C : CallF) (n : Nat) (R0 : Value→Value→Value→Heap→Option (Value × Heap)) (P1 : Env → Heap → Option (Value × Heap)) (env : Env) (H : Heap) : Option (Value × Heap) :=
 S.b (up (lenS (env 4)) H) fun y61 H62 =>
 S.b (up (binB Try.prog .gtr 3 y61 (.int .i64 0)) H62) fun y63 H64 =>
 S.i y63
 (S.c true (S.b (ldA 8 (env 3) H64) fun y65 H66 =>
  S.b (up (slcS 1 (env 4) none (some (.int .i64 64)) none) H66) fun y67 H68 =>
  S.b (C 15 [y65, y67] H68) fun y69 H70 =>
  S.c true (S.b (extr 0 y69 H70) fun y71 H72 =>
   S.b (extr 1 y69 H72) fun y73 H74 =>
   S.b (stV 8 (env 3) y71 H74) fun u75 H76 =>
   S.c true (S.b (up (slcS 1 (env 4) (some (.int .i64 64)) none none) H76) fun y77 H78 =>
    R0 (env 2) (env 3) y77 H78))))
 (P1 (putE 38 (putE 38 (putE 38 (putE 38 env (some 9) (env 4)) (some 10) y61) (some 11) y63) (some 21) (.int .i64 0)) H64)

theorem f18_L0_eq (S : Seam (Value × Heap)) (C : CallF) (n : Nat) : ∀ (m : Nat) (env : Env) (H : Heap), aloopK (acodeK S Try.prog C n 38 (cAt f18_c [1, 1, 0, 1, 0, 0])) m env H (kAt S Try.prog C n 38 f18_c [1, 1, 0, 1, 0] (fin Try.prog Try.f18)) = f18_L0 S C n m (env 2) (env 3) (env 4) H := by
  intro m env H
  refine aloopK_eq (L := fun m env H => f18_L0 S C n m (env 2) (env 3) (env 4) H) (fun env H => rfl) (fun m env H => ?_) m env H
  have h1 : acodeK S Try.prog C n 38 (cAt f18_c [1, 1, 0, 1, 0, 0]) env H (onNormal (fun env' H' => f18_L0 S C n m (env' 2) (env' 3) (env' 4) H') (kAt S Try.prog C n 38 f18_c [1, 1, 0, 1, 0] (fin Try.prog Try.f18))) = f18_L0G S C n (f18_L0 S C n m) (fun env H => aloopK (acodeK S Try.prog C n 38 (cAt f18_c [1, 1, 1, 0, 1, 0, 0])) n env H (kAt S Try.prog C n 38 f18_c [1, 1, 1, 0, 1, 0] (fin Try.prog Try.f18))) env H := by kernel_rfl
  have e0 : (fun env H => aloopK (acodeK S Try.prog C n 38 (cAt f18_c [1, 1, 1, 0, 1, 0, 0])) n env H (kAt S Try.prog C n 38 f18_c [1, 1, 1, 0, 1, 0] (fin Try.prog Try.f18))) = (fun env H => f18_L1 S C n n (env 2) (env 3) (env 21) H) := by funext env H; exact f18_L1_eq S C n n env H
  rw [e0] at h1
  exact h1.trans (by kernel_rfl)


noncomputable def f18 (S : Seam (Value × Heap)) (C : CallF) (n : Nat) (x0 : Value) (H : Heap) : Option (Value × Heap) :=
 S.b (newV (rep 32 [(.int .u8 0)]) H) fun y1 H2 =>
 S.b (C 23 [] H2) fun y3 H4 =>
 S.b (newV [(.int .u32 0), (.int .u32 0), (.int .u32 0), (.int .u32 0), (.int .u32 0), (.int .u32 0), (.int .u32 0), (.int .u32 0)] H4) fun y5 H6 =>
 S.b (stV 8 y5 y3 H6) fun _ H7 =>
 S.b (C 20 [x0] H7) fun y8 H9 =>
 f18_L0 S C n n y1 y5 y8 H9

noncomputable def f18G (S : Seam (Value × Heap)) (C : CallF) (n : Nat) (P0 : Env → Heap → Option (Value × Heap)) (x0 : Value) (H : Heap) : Option (Value × Heap) :=
 S.b (newV (rep 32 [(.int .u8 0)]) H) fun y79 H80 =>
 S.b (C 23 [] H80) fun y81 H82 =>
 S.b (newV [(.int .u32 0), (.int .u32 0), (.int .u32 0), (.int .u32 0), (.int .u32 0), (.int .u32 0), (.int .u32 0), (.int .u32 0)] H82) fun y83 H84 =>
 S.b (stV 8 y83 y81 H84) fun u85 H86 =>
 S.b (C 20 [x0] H86) fun y87 H88 =>
 P0 (putE 38 (putE 38 (putE 38 (putE 38 (putE 38 (putE 38 (putE 38 (env0 [x0]) (some 2) y79) (some 6) y81) (some 3) y83) none u85) (some 7) x0) (some 8) y87) (some 4) y87) H88

theorem f18_main (S : Seam (Value × Heap)) (C : CallF) (n : Nat) (x0 : Value) (H : Heap) : acodeK S Try.prog C n 38 f18_c (env0 [x0]) H (fin Try.prog Try.f18) = f18 S C n x0 H := by
  have h1 : acodeK S Try.prog C n 38 f18_c (env0 [x0]) H (fin Try.prog Try.f18) = f18G S C n (fun env H => aloopK (acodeK S Try.prog C n 38 (cAt f18_c [1, 1, 0, 1, 0, 0])) n env H (kAt S Try.prog C n 38 f18_c [1, 1, 0, 1, 0] (fin Try.prog Try.f18))) x0 H := by kernel_rfl
  have e0 : (fun env H => aloopK (acodeK S Try.prog C n 38 (cAt f18_c [1, 1, 0, 1, 0, 0])) n env H (kAt S Try.prog C n 38 f18_c [1, 1, 0, 1, 0] (fin Try.prog Try.f18))) = (fun env H => f18_L0 S C n n (env 2) (env 3) (env 4) H) := by funext env H; exact f18_L0_eq S C n n env H
  rw [e0] at h1
  exact h1.trans (by kernel_rfl)


theorem f18_eq {gl : Bool} {E : Ext} (hE : E 18 = none) (n : Nat) (x0 : Value) (H : Heap) : acall Try.prog gl E (n + 1) 18 [x0] H = f18 real (acall Try.prog gl E n) n x0 H :=
  (acall_eq (N := 38) Try.func18 (by kernel_rfl) (by kernel_rfl) hE (okgl f18_c (by kernel_rfl)) (by kernel_rfl)).trans (f18_main real _ n x0 H)

/-! incunable/incunableref04.Of -/
noncomputable def f19_c : Code := (Try.f19.body).getD .skip

noncomputable def f19_L1 (S : Seam (Value × Heap)) (C : CallF) (n : Nat) : Nat → Value → Value → Value → Value → Heap → Option (Value × Heap)
 | 0, _, _, _, _, _ => none
 | m + 1, y37, y38, y39, y40, H41 =>
   S.b (up (binB Try.prog .lss 3 y40 (.int .i64 32)) H41) fun y42 H43 =>
   S.i y42
   (S.b (up (binB Try.prog .quo 3 y40 (.int .i64 4)) H43) fun y44 H45 =>
    S.b (up (iAddrA 8 1 y38 y44) H45) fun y46 H47 =>
    S.b (ldC y46 H47) fun y48 H49 =>
    S.b (up (binB Try.prog .rem 3 y40 (.int .i64 4)) H49) fun y50 H51 =>
    S.b (up (binB Try.prog .mul 3 (.int .i64 8) y50) H51) fun y52 H53 =>
    S.b (up (binB Try.prog .sub 3 (.int .i64 24) y52) H53) fun y54 H55 =>
    S.b (up (binB Try.prog .shr 22 y48 y54) H55) fun y56 H57 =>
    S.b (cvI .u8 y56 H57) fun y58 H59 =>
    S.b (up (iAddrA 32 1 y39 y40) H59) fun y60 H61 =>
    S.b (stV 1 y60 y58 H61) fun _ H62 =>
    S.b (up (binB Try.prog .add 3 y40 (.int .i64 1)) H62) fun y63 H64 =>
    f19_L1 S C n m y37 y38 y39 y63 H64)
   (S.b (ldA 32 y39 H43) fun y65 H66 =>
    S.b (stV 32 y37 y65 H66) fun _ H67 =>
    (resM [(ldA 32 y37 H67).map (·.1)]).map fun l => (one l, H67))

theorem f19_L1_eq (S : Seam (Value × Heap)) (C : CallF) (n : Nat) : ∀ (m : Nat) (env : Env) (H : Heap), aloopK (acodeK S Try.prog C n 45 (cAt f19_c [1, 1, 1, 1, 1, 1, 0, 1, 0, 0])) m env H (kAt S Try.prog C n 45 f19_c [1, 1, 1, 1, 1, 1, 0, 1, 0] (fin Try.prog Try.f19)) = f19_L1 S C n m (env 2) (env 3) (env 7) (env 8) H := by
  intro m env H
  refine aloopK_eq (L := fun m env H => f19_L1 S C n m (env 2) (env 3) (env 7) (env 8) H) (fun env H => rfl) (fun m env H => ?_) m env H
  kernel_rfl


noncomputable def f19_L0 (S : Seam (Value × Heap)) (C : CallF) (n : Nat) : Nat → Value → Value → Value → Value → Value → Heap → Option (Value × Heap)
 | 0, _, _, _, _, _, _ => none
 | m + 1, y12, y13, y14, y15, y16, H17 =>
   S.b (up (lenS y15) H17) fun y18 H19 =>
   S.b (up (binB Try.prog .lss 3 y16 y18) H19) fun y20 H21 =>
   S.i y20
   (S.c true (S.b (ldA 8 y13 H21) fun y22 H23 =>
    S.b (up (binB Try.prog .add 3 y16 (.int .i64 64)) H23) fun y24 H25 =>
    S.b (up (slcS 1 y15 (some y16) (some y24) none) H25) fun y26 H27 =>
    S.b (C 37 [y26] H27) fun y28 H29 =>
    S.c (sameBlk H27 H29 (blkOf y13) && true) (S.b (C 36 [y22, y28, y14] H29) fun y30 H31 =>
     S.c true (S.b (stV 8 y13 y30 H31) fun _ H32 =>
      S.c true (S.b (up (binB Try.prog .add 3 y16 (.int .i64 64)) H32) fun y33 H34 =>
       f19_L0 S C n m y12 y13 y14 y15 y33 H34)))))
   (S.b (newV (rep 32 [(.int .u8 0)]) H21) fun y35 H36 =>
    f19_L1 S C n n y12 y13 y35 (.int .i64 0) H36)

noncomputable def f19_L0G (S : Seam (Value × Heap)) (C : CallF) (n : Nat) (R0 : Value→Value→Value→Value→Value→Heap→Option (Value × Heap)) (P1 : Env → Heap → Option (Value × Heap)) (env : Env) (H : Heap) : Option (Value × Heap) :=
 S.b (up (lenS (env 5)) H) fun y68 H69 =>
 S.b (up (binB Try.prog .lss 3 (env 6) y68) H69) fun y70 H71 =>
 S.i y70
 (S.c true (S.b (ldA 8 (env 3) H71) fun y72 H73 =>
  S.b (up (binB Try.prog .add 3 (env 6) (.int .i64 64)) H73) fun y74 H75 =>
  S.b (up (slcS 1 (env 5) (some (env 6)) (some y74) none) H75) fun y76 H77 =>
  S.b (C 37 [y76] H77) fun y78 H79 =>
  S.c (sameBlk H77 H79 (blkOf (env 3)) && true) (S.b (C 36 [y72, y78, (env 4)] H79) fun y80 H81 =>
   S.c true (S.b (stV 8 (env 3) y80 H81) fun u82 H83 =>
    S.c true (S.b (up (binB Try.prog .add 3 (env 6) (.int .i64 64)) H83) fun y84 H85 =>
     R0 (env 2) (env 3) (env 4) (env 5) y84 H85)))))
 (S.b (newV (rep 32 [(.int .u8 0)]) H71) fun y86 H87 =>
  P1 (putE 45 (putE 45 (putE 45 (putE 45 (putE 45 (putE 45 env (some 13) (env 6)) (some 14) (env 5)) (some 15) y68) (some 16) y70) (some 7) y86) (some 8) (.int .i64 0)) H87)

theorem f19_L0_eq (S : Seam (Value × Heap)) (C : CallF) (n : Nat) : ∀ (m : Nat) (env : Env) (H : Heap), aloopK (acodeK S Try.prog C n 45 (cAt f19_c [1, 1, 1, 1, 0, 1, 0, 0])) m env H (kAt S Try.prog C n 45 f19_c [1, 1, 1, 1, 0, 1, 0] (fin Try.prog Try.f19)) = f19_L0 S C n m (env 2) (env 3) (env 4) (env 5) (env 6) H := by
  intro m env H
  refine aloopK_eq (L := fun m env H => f19_L0 S C n m (env 2) (env 3) (env 4) (env 5) (env 6) H) (fun env H => rfl) (fun m env H => ?_) m env H
  have h1 : acodeK S Try.prog C n 45 (cAt f19_c [1, 1, 1, 1, 0, 1, 0, 0]) env H (onNormal (fun env' H' => f19_L0 S C n m (env' 2) (env' 3) (env' 4) (env' 5) (env' 6) H') (kAt S Try.prog C n 45 f19_c [1, 1, 1, 1, 0, 1, 0] (fin Try.prog Try.f19))) = f19_L0G S C n (f19_L0 S C n m) (fun env H => aloopK (acodeK S Try.prog C n 45 (cAt f19_c [1, 1, 1, 1, 1, 1, 0, 1, 0, 0])) n env H (kAt S Try.prog C n 45 f19_c [1, 1, 1, 1, 1, 1, 0, 1, 0] (fin Try.prog Try.f19))) env H := by kernel_rfl
  have e0 : (fun env H => aloopK (acodeK S Try.prog C n 45 (cAt f19_c [1, 1, 1, 1, 1, 1, 0, 1, 0, 0])) n env H (kAt S Try.prog C n 45 f19_c [1, 1, 1, 1, 1, 1, 0, 1, 0] (fin Try.prog Try.f19))) = (fun env H => f19_L1 S C n n (env 2) (env 3) (env 7) (env 8) H) := by funext env H; exact f19_L1_eq S C n n env H
  rw [e0] at h1
  exact h1.trans (by kernel_rfl)


noncomputable def f19 (S : Seam (Value × Heap)) (C : CallF) (n : Nat) (x0 : Value) (H : Heap) : Option (Value × Heap) :=
 S.b (newV (rep 32 [(.int .u8 0)]) H) fun y1 H2 =>
 S.b (C 39 [] H2) fun y3 H4 =>
 S.b (newV [(.int .u32 0), (.int .u32 0), (.int .u32 0), (.int .u32 0), (.int .u32 0), (.int .u32 0), (.int .u32 0), (.int .u32 0)] H4) fun y5 H6 =>
 S.b (stV 8 y5 y3 H6) fun _ H7 =>
 S.b (C 38 [(.int .i64 3), (.int .i64 64)] H7) fun y8 H9 =>
 S.b (C 40 [x0] H9) fun y10 H11 =>
 f19_L0 S C n n y1 y5 y8 y10 (.int .i64 0) H11

noncomputable def f19G (S : Seam (Value × Heap)) (C : CallF) (n : Nat) (P0 : Env → Heap → Option (Value × Heap)) (x0 : Value) (H : Heap) : Option (Value × Heap) :=
 S.b (newV (rep 32 [(.int .u8 0)]) H) fun y88 H89 =>
 S.b (C 39 [] H89) fun y90 H91 =>
 S.b (newV [(.int .u32 0), (.int .u32 0), (.int .u32 0), (.int .u32 0), (.int .u32 0), (.int .u32 0), (.int .u32 0), (.int .u32 0)] H91) fun y92 H93 =>
 S.b (stV 8 y92 y90 H93) fun u94 H95 =>
 S.b (C 38 [(.int .i64 3), (.int .i64 64)] H95) fun y96 H97 =>
 S.b (C 40 [x0] H97) fun y98 H99 =>
 P0 (putE 45 (putE 45 (putE 45 (putE 45 (putE 45 (putE 45 (putE 45 (putE 45 (putE 45 (putE 45 (env0 [x0]) (some 2) y88) (some 9) y90) (some 3) y92) none u94) (some 10) y96) (some 4) y96) (some 11) x0) (some 12) y98) (some 5) y98) (some 6) (.int .i64 0)) H99

theorem f19_main (S : Seam (Value × Heap)) (C : CallF) (n : Nat) (x0 : Value) (H : Heap) : acodeK S Try.prog C n 45 f19_c (env0 [x0]) H (fin Try.prog Try.f19) = f19 S C n x0 H := by
  have h1 : acodeK S Try.prog C n 45 f19_c (env0 [x0]) H (fin Try.prog Try.f19) = f19G S C n (fun env H => aloopK (acodeK S Try.prog C n 45 (cAt f19_c [1, 1, 1, 1, 0, 1, 0, 0])) n env H (kAt S Try.prog C n 45 f19_c [1, 1, 1, 1, 0, 1, 0] (fin Try.prog Try.f19))) x0 H := by kernel_rfl
  have e0 : (fun env H => aloopK (acodeK S Try.prog C n 45 (cAt f19_c [1, 1, 1, 1, 0, 1, 0, 0])) n env H (kAt S Try.prog C n 45 f19_c [1, 1, 1, 1, 0, 1, 0] (fin Try.prog Try.f19))) = (fun env H => f19_L0 S C n n (env 2) (env 3) (env 4) (env 5) (env 6) H) := by funext env H; exact f19_L0_eq S C n n env H
  rw [e0] at h1
  exact h1.trans (by kernel_rfl)


theorem f19_eq {gl : Bool} {E : Ext} (hE : E 19 = none) (n : Nat) (x0 : Value) (H : Heap) : acall Try.prog gl E (n + 1) 19 [x0] H = f19 real (acall Try.prog gl E n) n x0 H :=
  (acall_eq (N := 45) Try.func19 (by kernel_rfl) (by kernel_rfl) hE (okgl f19_c (by kernel_rfl)) (by kernel_rfl)).trans (f19_main real _ n x0 H)

/-! incunable/sha.Pad -/
noncomputable def f20_c : Code := (Try.f20.body).getD .skip

noncomputable def f20_L0 (S : Seam (Value × Heap)) (C : CallF) (n : Nat) : Nat → Value → Value → Value → Heap → Option (Value × Heap)
 | 0, _, _, _, _ => none
 | m + 1, y25, y26, y27, H28 =>
   S.b (up (binB Try.prog .lss 3 y27 (.int .i64 8)) H28) fun y29 H30 =>
   S.i y29
   (S.b (up (lenS y25) H30) fun y31 H32 =>
    S.b (up (binB Try.prog .sub 3 y31 (.int .i64 1)) H32) fun y33 H34 =>
    S.b (up (binB Try.prog .sub 3 y33 y27) H34) fun y35 H36 =>
    S.b (up (binB Try.prog .mul 3 (.int .i64 8) y27) H36) fun y37 H38 =>
    S.b (up (binB Try.prog .shr 49 y26 y37) H38) fun y39 H40 =>
    S.b (cvI .u8 y39 H40) fun y41 H42 =>
    S.b (up (iAddrS 1 y25 y35) H42) fun y43 H44 =>
    S.b (stV 1 y43 y41 H44) fun _ H45 =>
    S.b (up (binB Try.prog .add 3 y27 (.int .i64 1)) H45) fun y46 H47 =>
    f20_L0 S C n m y25 y26 y46 H47)
   (some (y25, H30))

theorem f20_L0_eq (S : Seam (Value × Heap)) (C : CallF) (n : Nat) : ∀ (m : Nat) (env : Env) (H : Heap), aloopK (acodeK S Try.prog C n 40 (cAt f20_c [1, 1, 1, 1, 0, 1, 0, 0])) m env H (kAt S Try.prog C n 40 f20_c [1, 1, 1, 1, 0, 1, 0] (fin Try.prog Try.f20)) = f20_L0 S C n m (env 4) (env 5) (env 23) H := by
  intro m env H
  refine aloopK_eq (L := fun m env H => f20_L0 S C n m (env 4) (env 5) (env 23) H) (fun env H => rfl) (fun m env H => ?_) m env H
  kernel_rfl


noncomputable def f20 (S : Seam (Value × Heap)) (C : CallF) (n : Nat) (x0 : Value) (H : Heap) : Option (Value × Heap) :=
 S.b (up (lenS x0) H) fun y1 H2 =>
 S.b (up (binB Try.prog .rem 3 y1 (.int .i64 64)) H2) fun y3 H4 =>
 S.b (up (binB Try.prog .sub 3 (.int .i64 119) y3) H4) fun y5 H6 =>
 S.b (up (binB Try.prog .rem 3 y5 (.int .i64 64)) H6) fun y7 H8 =>
 S.b (bldS 1 1 [(.int .u8 0)] [(0, 1, (.int .u8 128))] H8) fun y9 H10 =>
 S.b (up (binB Try.prog .add 3 y7 (.int .i64 8)) H10) fun y11 H12 =>
 S.b (mkS 1 1 [(.int .u8 0)] y11 y11 H12) fun y13 H14 =>
 S.b (bldS 1 3 [(.slice none 0 0)] [(0, 1, x0), (1, 1, y9), (2, 1, y13)] H14) fun y15 H16 =>
 S.b (C 41 [y15, (.slice none 0 0)] H16) fun y17 H18 =>
 S.b (up (lenS x0) H18) fun y19 H20 =>
 S.b (cvI .u64 y19 H20) fun y21 H22 =>
 S.b (up (binB Try.prog .mul 49 y21 (.int .u64 8)) H22) fun y23 H24 =>
 f20_L0 S C n n y17 y23 (.int .i64 0) H24

noncomputable def f20G (S : Seam (Value × Heap)) (C : CallF) (n : Nat) (P0 : Env → Heap → Option (Value × Heap)) (x0 : Value) (H : Heap) : Option (Value × Heap) :=
 S.b (up (lenS x0) H) fun y48 H49 =>
 S.b (up (binB Try.prog .rem 3 y48 (.int .i64 64)) H49) fun y50 H51 =>
 S.b (up (binB Try.prog .sub 3 (.int .i64 119) y50) H51) fun y52 H53 =>
 S.b (up (binB Try.prog .rem 3 y52 (.int .i64 64)) H53) fun y54 H55 =>
 S.b (bldS 1 1 [(.int .u8 0)] [(0, 1, (.int .u8 128))] H55) fun y56 H57 =>
 S.b (up (binB Try.prog .add 3 y54 (.int .i64 8)) H57) fun y58 H59 =>
 S.b (mkS 1 1 [(.int .u8 0)] y58 y58 H59) fun y60 H61 =>
 S.b (bldS 1 3 [(.slice none 0 0)] [(0, 1, x0), (1, 1, y56), (2, 1, y60)] H61) fun y62 H63 =>
 S.b (C 41 [y62, (.slice none 0 0)] H63) fun y64 H65 =>
 S.b (up (lenS x0) H65) fun y66 H67 =>
 S.b (cvI .u64 y66 H67) fun y68 H69 =>
 S.b (up (binB Try.prog .mul 49 y68 (.int .u64 8)) H69) fun y70 H71 =>
 P0 (putE 40 (putE 40 (putE 40 (putE 40 (putE 40 (putE 40 (putE 40 (putE 40 (putE 40 (putE 40 (putE 40 (putE 40 (putE 40 (putE 40 (putE 40 (putE 40 (putE 40 (putE 40 (putE 40 (putE 40 (putE 40 (env0 [x0]) (some 2) (.slice none 0 0)) (some 7) x0) (some 8) y48) (some 9) y50) (some 10) y52) (some 11) y54) (some 3) y54) (some 12) x0) (some 13) y56) (some 14) y54) (some 15) y58) (some 16) y60) (some 17) y62) (some 18) y64) (some 4) y64) (some 19) x0) (some 20) y66) (some 21) y68) (some 22) y70) (some 5) y70) (some 23) (.int .i64 0)) H71

theorem f20_main (S : Seam (Value × Heap)) (C : CallF) (n : Nat) (x0 : Value) (H : Heap) : acodeK S Try.prog C n 40 f20_c (env0 [x0]) H (fin Try.prog Try.f20) = f20 S C n x0 H := by
  have h1 : acodeK S Try.prog C n 40 f20_c (env0 [x0]) H (fin Try.prog Try.f20) = f20G S C n (fun env H => aloopK (acodeK S Try.prog C n 40 (cAt f20_c [1, 1, 1, 1, 0, 1, 0, 0])) n env H (kAt S Try.prog C n 40 f20_c [1, 1, 1, 1, 0, 1, 0] (fin Try.prog Try.f20))) x0 H := by kernel_rfl
  have e0 : (fun env H => aloopK (acodeK S Try.prog C n 40 (cAt f20_c [1, 1, 1, 1, 0, 1, 0, 0])) n env H (kAt S Try.prog C n 40 f20_c [1, 1, 1, 1, 0, 1, 0] (fin Try.prog Try.f20))) = (fun env H => f20_L0 S C n n (env 4) (env 5) (env 23) H) := by funext env H; exact f20_L0_eq S C n n env H
  rw [e0] at h1
  exact h1.trans (by kernel_rfl)


theorem f20_eq {gl : Bool} {E : Ext} (hE : E 20 = none) (n : Nat) (x0 : Value) (H : Heap) : acall Try.prog gl E (n + 1) 20 [x0] H = f20 real (acall Try.prog gl E n) n x0 H :=
  (acall_eq (N := 40) Try.func20 (by kernel_rfl) (by kernel_rfl) hE (okgl f20_c (by kernel_rfl)) (by kernel_rfl)).trans (f20_main real _ n x0 H)

/-! incunable/incunableref00.Bring -/
noncomputable def f21_c : Code := (Try.f21.body).getD .skip

noncomputable def f21 (S : Seam (Value × Heap)) (C : CallF) (n : Nat) (x0 : Value) (x1 : Value) (H : Heap) : Option (Value × Heap) :=
 S.b (up (binB Try.prog .leq 3 x1 (.int .i64 0)) H) fun y1 H2 =>
 S.i y1
 (some ((.int .i64 0), H2))
 (S.b (up (binB Try.prog .rem 3 x0 x1) H2) fun y3 H4 =>
  S.b (up (binB Try.prog .lss 3 y3 (.int .i64 0)) H4) fun y5 H6 =>
  S.i y5
  (S.b (up (binB Try.prog .add 3 y3 x1) H6) fun y7 H8 =>
   some (y7, H8))
  (some (y3, H6)))

theorem f21_main (S : Seam (Value × Heap)) (C : CallF) (n : Nat) (x0 : Value) (x1 : Value) (H : Heap) : acodeK S Try.prog C n 16 f21_c (env0 [x0, x1]) H (fin Try.prog Try.f21) = f21 S C n x0 x1 H := by
  kernel_rfl


theorem f21_eq {gl : Bool} {E : Ext} (hE : E 21 = none) (n : Nat) (x0 : Value) (x1 : Value) (H : Heap) : acall Try.prog gl E (n + 1) 21 [x0, x1] H = f21 real (acall Try.prog gl E n) n x0 x1 H :=
  (acall_eq (N := 16) Try.func21 (by kernel_rfl) (by kernel_rfl) hE (okgl f21_c (by kernel_rfl)) (by kernel_rfl)).trans (f21_main real _ n x0 x1 H)

/-! incunable/incunablelaw04.folded -/
noncomputable def f22_c : Code := (Try.f22.body).getD .skip

noncomputable def f22_L0 (S : Seam (Value × Heap)) (C : CallF) (n : Nat) : Nat → Value → Value → Value → Value → Heap → Option (Value × Heap)
 | 0, _, _, _, _, _ => none
 | m + 1, y5, y6, y7, y8, H9 =>
   S.b (up (binB Try.prog .add 3 y8 (.int .i64 64)) H9) fun y10 H11 =>
   S.b (up (lenS y5) H11) fun y12 H13 =>
   S.b (up (binB Try.prog .leq 3 y10 y12) H13) fun y14 H15 =>
   S.i y14
   (S.c true (S.b (ldA 8 y6 H15) fun y16 H17 =>
    S.b (up (binB Try.prog .add 3 y8 (.int .i64 64)) H17) fun y18 H19 =>
    S.b (up (slcS 1 y5 (some y8) (some y18) none) H19) fun y20 H21 =>
    S.b (C 15 [y16, y20] H21) fun y22 H23 =>
    S.c true (S.b (extr 0 y22 H23) fun y24 H25 =>
     S.b (extr 1 y22 H25) fun y26 H27 =>
     S.b (newV [(.int .u32 0), (.int .u32 0), (.int .u32 0), (.int .u32 0), (.int .u32 0), (.int .u32 0), (.int .u32 0), (.int .u32 0)] H27) fun y28 H29 =>
     S.b (stV 8 y28 y24 H29) fun _ H30 =>
     S.c true (S.b (up (binB Try.prog .neq 23 y26 (.int .i64 0)) H30) fun y31 H32 =>
      S.i y31
      (S.b (ldA 8 y6 H32) fun y33 H34 =>
       S.b (stV 8 y7 y33 H34) fun _ H35 =>
       (resM [(ldA 8 y7 H35).map (·.1), some (.bool false)]).map fun l => (one l, H35))
      (S.b (ldA 8 y28 H32) fun y36 H37 =>
       S.b (stV 8 y6 y36 H37) fun _ H38 =>
       S.b (up (binB Try.prog .add 3 y8 (.int .i64 64)) H38) fun y39 H40 =>
       f22_L0 S C n m y5 y6 y7 y39 H40)))))
   (S.b (ldA 8 y6 H15) fun y41 H42 =>
    S.b (up (lenS y5) H42) fun y43 H44 =>
    S.b (up (binB Try.prog .rem 3 y43 (.int .i64 64)) H44) fun y45 H46 =>
    S.b (up (binB Try.prog .eql 3 y45 (.int .i64 0)) H46) fun y47 H48 =>
    S.b (stV 8 y7 y41 H48) fun _ H49 =>
    (resM [(ldA 8 y7 H49).map (·.1), some y47]).map fun l => (one l, H49))

theorem f22_L0_eq (S : Seam (Value × Heap)) (C : CallF) (n : Nat) : ∀ (m : Nat) (env : Env) (H : Heap), aloopK (acodeK S Try.prog C n 35 (cAt f22_c [1, 0, 1, 0, 0])) m env H (kAt S Try.prog C n 35 f22_c [1, 0, 1, 0] (fin Try.prog Try.f22)) = f22_L0 S C n m (env 1) (env 2) (env 4) (env 6) H := by
  intro m env H
  refine aloopK_eq (L := fun m env H => f22_L0 S C n m (env 1) (env 2) (env 4) (env 6) H) (fun env H => rfl) (fun m env H => ?_) m env H
  kernel_rfl


noncomputable def f22 (S : Seam (Value × Heap)) (C : CallF) (n : Nat) (x0 : Value) (x1 : Value) (H : Heap) : Option (Value × Heap) :=
 S.b (newV (Value.cells x0).toList H) fun y1 H2 =>
 S.b (newV [(.int .u32 0), (.int .u32 0), (.int .u32 0), (.int .u32 0), (.int .u32 0), (.int .u32 0), (.int .u32 0), (.int .u32 0)] H2) fun y3 H4 =>
 f22_L0 S C n n x1 y1 y3 (.int .i64 0) H4

noncomputable def f22G (S : Seam (Value × Heap)) (C : CallF) (n : Nat) (P0 : Env → Heap → Option (Value × Heap)) (x0 : Value) (x1 : Value) (H : Heap) : Option (Value × Heap) :=
 S.b (newV (Value.cells x0).toList H) fun y50 H51 =>
 S.b (newV [(.int .u32 0), (.int .u32 0), (.int .u32 0), (.int .u32 0), (.int .u32 0), (.int .u32 0), (.int .u32 0), (.int .u32 0)] H51) fun y52 H53 =>
 P0 (putE 35 (putE 35 (putE 35 (putE 35 (env0 [x0, x1]) (some 2) y50) (some 4) y52) (some 5) (.bool false)) (some 6) (.int .i64 0)) H53

theorem f22_main (S : Seam (Value × Heap)) (C : CallF) (n : Nat) (x0 : Value) (x1 : Value) (H : Heap) : acodeK S Try.prog C n 35 f22_c (env0 [x0, x1]) H (fin Try.prog Try.f22) = f22 S C n x0 x1 H := by
  have h1 : acodeK S Try.prog C n 35 f22_c (env0 [x0, x1]) H (fin Try.prog Try.f22) = f22G S C n (fun env H => aloopK (acodeK S Try.prog C n 35 (cAt f22_c [1, 0, 1, 0, 0])) n env H (kAt S Try.prog C n 35 f22_c [1, 0, 1, 0] (fin Try.prog Try.f22))) x0 x1 H := by kernel_rfl
  have e0 : (fun env H => aloopK (acodeK S Try.prog C n 35 (cAt f22_c [1, 0, 1, 0, 0])) n env H (kAt S Try.prog C n 35 f22_c [1, 0, 1, 0] (fin Try.prog Try.f22))) = (fun env H => f22_L0 S C n n (env 1) (env 2) (env 4) (env 6) H) := by funext env H; exact f22_L0_eq S C n n env H
  rw [e0] at h1
  exact h1.trans (by kernel_rfl)


theorem f22_eq {gl : Bool} {E : Ext} (hE : E 22 = none) (n : Nat) (x0 : Value) (x1 : Value) (H : Heap) : acall Try.prog gl E (n + 1) 22 [x0, x1] H = f22 real (acall Try.prog gl E n) n x0 x1 H :=
  (acall_eq (N := 35) Try.func22 (by kernel_rfl) (by kernel_rfl) hE (okgl f22_c (by kernel_rfl)) (by kernel_rfl)).trans (f22_main real _ n x0 x1 H)

/-! incunable/incunablelaw04.root -/
noncomputable def f24_c : Code := (Try.f24.body).getD .skip

noncomputable def f24 (S : Seam (Value × Heap)) (C : CallF) (n : Nat) (x0 : Value) (x1 : Value) (x2 : Value) (H : Heap) : Option (Value × Heap) :=
 S.b (C 11 [x0, x1] H) fun y1 H2 =>
 S.b (extr 0 y1 H2) fun y3 H4 =>
 S.b (extr 1 y1 H4) fun y5 H6 =>
 S.b (up (binB Try.prog .eql 22 y3 x2) H6) fun y7 H8 =>
 S.b (gd (wd y7 true) (some (y5, H8)) H8) fun y9 H10 =>
 S.b (gd (wd y7 true) (up (binB Try.prog .eql 23 y9 (.int .i64 0)) H10) H10) fun y11 H12 =>
 S.b (pickV y7 y11 (.bool false) H12) fun y13 H14 =>
 some (y13, H14)

theorem f24_main (S : Seam (Value × Heap)) (C : CallF) (n : Nat) (x0 : Value) (x1 : Value) (x2 : Value) (H : Heap) : acodeK S Try.prog C n 22 f24_c (env0 [x0, x1, x2]) H (fin Try.prog Try.f24) = f24 S C n x0 x1 x2 H := by
  kernel_rfl


theorem f24_eq {gl : Bool} {E : Ext} (hE : E 24 = none) (n : Nat) (x0 : Value) (x1 : Value) (x2 : Value) (H : Heap) : acall Try.prog gl E (n + 1) 24 [x0, x1, x2] H = f24 real (acall Try.prog gl E n) n x0 x1 x2 H :=
  (acall_eq (N := 22) Try.func24 (by kernel_rfl) (by kernel_rfl) hE (okgl f24_c (by kernel_rfl)) (by kernel_rfl)).trans (f24_main real _ n x0 x1 x2 H)

/-! incunable/sha.Parse -/
noncomputable def f25_c : Code := (Try.f25.body).getD .skip

noncomputable def f25_L0 (S : Seam (Value × Heap)) (C : CallF) (n : Nat) : Nat → Value → Value → Value → Value → Heap → Option (Value × Heap)
 | 0, _, _, _, _, _ => none
 | m + 1, y12, y13, y14, y15, H16 =>
   S.b (up (binB Try.prog .lss 3 y15 y14) H16) fun y17 H18 =>
   S.i y17
   (S.b (up (idxS y12 y15) H18) fun y19 H20 =>
    S.b (C 43 [(.string ⟨#[48, 49, 50, 51, 52, 53, 54, 55, 56, 57, 97, 98, 99, 100, 101, 102]⟩), y19] H20) fun y21 H22 =>
    S.b (up (binB Try.prog .lss 3 y21 (.int .i64 0)) H22) fun y23 H24 =>
    S.i y23
    (S.b (bld (rep 32 [(.int .u8 0)]) [] H24) fun y25 H26 =>
     S.b (stV 32 y13 y25 H26) fun _ H27 =>
     (resM [(ldA 32 y13 H27).map (·.1), some (.int .i64 4)]).map fun l => (one l, H27))
    (S.b (up (binB Try.prog .quo 3 y15 (.int .i64 2)) H24) fun y28 H29 =>
     S.b (up (binB Try.prog .quo 3 y15 (.int .i64 2)) H29) fun y30 H31 =>
     S.b (up (iAddrA 32 1 y13 y30) H31) fun y32 H33 =>
     S.b (ldC y32 H33) fun y34 H35 =>
     S.b (up (binB Try.prog .shl 5 y34 (.int .u64 4)) H35) fun y36 H37 =>
     S.b (cvI .u8 y21 H37) fun y38 H39 =>
     S.b (up (binB Try.prog .or 5 y36 y38) H39) fun y40 H41 =>
     S.b (up (iAddrA 32 1 y13 y28) H41) fun y42 H43 =>
     S.b (stV 1 y42 y40 H43) fun _ H44 =>
     S.b (up (binB Try.prog .add 3 y15 (.int .i64 1)) H44) fun y45 H46 =>
     f25_L0 S C n m y12 y13 y14 y45 H46))
   (S.b (ldA 32 y13 H18) fun y47 H48 =>
    S.b (stV 32 y13 y47 H48) fun _ H49 =>
    (resM [(ldA 32 y13 H49).map (·.1), some (.int .i64 0)]).map fun l => (one l, H49))

theorem f25_L0_eq (S : Seam (Value × Heap)) (C : CallF) (n : Nat) : ∀ (m : Nat) (env : Env) (H : Heap), aloopK (acodeK S Try.prog C n 35 (cAt f25_c [1, 1, 0, 1, 0, 0])) m env H (kAt S Try.prog C n 35 f25_c [1, 1, 0, 1, 0] (fin Try.prog Try.f25)) = f25_L0 S C n m (env 0) (env 2) (env 11) (env 12) H := by
  intro m env H
  refine aloopK_eq (L := fun m env H => f25_L0 S C n m (env 0) (env 2) (env 11) (env 12) H) (fun env H => rfl) (fun m env H => ?_) m env H
  kernel_rfl


noncomputable def f25 (S : Seam (Value × Heap)) (C : CallF) (n : Nat) (x0 : Value) (H : Heap) : Option (Value × Heap) :=
 S.b (newV (rep 32 [(.int .u8 0)]) H) fun y1 H2 =>
 S.b (up (lenStr x0) H2) fun y3 H4 =>
 S.b (up (binB Try.prog .neq 3 y3 (.int .i64 64)) H4) fun y5 H6 =>
 S.i y5
 (S.b (bld (rep 32 [(.int .u8 0)]) [] H6) fun y7 H8 =>
  S.b (stV 32 y1 y7 H8) fun _ H9 =>
  (resM [(ldA 32 y1 H9).map (·.1), some (.int .i64 4)]).map fun l => (one l, H9))
 (S.b (up (lenStr x0) H6) fun y10 H11 =>
  f25_L0 S C n n x0 y1 y10 (.int .i64 0) H11)

noncomputable def f25G (S : Seam (Value × Heap)) (C : CallF) (n : Nat) (P0 : Env → Heap → Option (Value × Heap)) (x0 : Value) (H : Heap) : Option (Value × Heap) :=
 S.b (newV (rep 32 [(.int .u8 0)]) H) fun y50 H51 =>
 S.b (up (lenStr x0) H51) fun y52 H53 =>
 S.b (up (binB Try.prog .neq 3 y52 (.int .i64 64)) H53) fun y54 H55 =>
 S.i y54
 (S.b (bld (rep 32 [(.int .u8 0)]) [] H55) fun y56 H57 =>
  S.b (stV 32 y50 y56 H57) fun u58 H59 =>
  (resM [(ldA 32 y50 H59).map (·.1), some (.int .i64 4)]).map fun l => (one l, H59))
 (S.b (up (lenStr x0) H55) fun y60 H61 =>
  P0 (putE 35 (putE 35 (putE 35 (putE 35 (putE 35 (putE 35 (putE 35 (putE 35 (env0 [x0]) (some 2) y50) (some 3) (.int .i64 0)) (some 6) x0) (some 7) y52) (some 8) y54) (some 10) x0) (some 11) y60) (some 12) (.int .i64 0)) H61)

theorem f25_main (S : Seam (Value × Heap)) (C : CallF) (n : Nat) (x0 : Value) (H : Heap) : acodeK S Try.prog C n 35 f25_c (env0 [x0]) H (fin Try.prog Try.f25) = f25 S C n x0 H := by
  have h1 : acodeK S Try.prog C n 35 f25_c (env0 [x0]) H (fin Try.prog Try.f25) = f25G S C n (fun env H => aloopK (acodeK S Try.prog C n 35 (cAt f25_c [1, 1, 0, 1, 0, 0])) n env H (kAt S Try.prog C n 35 f25_c [1, 1, 0, 1, 0] (fin Try.prog Try.f25))) x0 H := by kernel_rfl
  have e0 : (fun env H => aloopK (acodeK S Try.prog C n 35 (cAt f25_c [1, 1, 0, 1, 0, 0])) n env H (kAt S Try.prog C n 35 f25_c [1, 1, 0, 1, 0] (fin Try.prog Try.f25))) = (fun env H => f25_L0 S C n n (env 0) (env 2) (env 11) (env 12) H) := by funext env H; exact f25_L0_eq S C n n env H
  rw [e0] at h1
  exact h1.trans (by kernel_rfl)


theorem f25_eq {gl : Bool} {E : Ext} (hE : E 25 = none) (n : Nat) (x0 : Value) (H : Heap) : acall Try.prog gl E (n + 1) 25 [x0] H = f25 real (acall Try.prog gl E n) n x0 H :=
  (acall_eq (N := 35) Try.func25 (by kernel_rfl) (by kernel_rfl) hE (okgl f25_c (by kernel_rfl)) (by kernel_rfl)).trans (f25_main real _ n x0 H)

/-! incunable/incunableref04.Parse -/
noncomputable def f26_c : Code := (Try.f26.body).getD .skip

noncomputable def f26_L0 (S : Seam (Value × Heap)) (C : CallF) (n : Nat) : Nat → Value → Value → Value → Value → Heap → Option (Value × Heap)
 | 0, _, _, _, _, _ => none
 | m + 1, y12, y13, y14, y15, H16 =>
   S.b (up (binB Try.prog .lss 3 y15 (.int .i64 32)) H16) fun y17 H18 =>
   S.i y17
   (S.b (up (binB Try.prog .mul 3 (.int .i64 2) y15) H18) fun y19 H20 =>
    S.b (up (idxS y12 y19) H20) fun y21 H22 =>
    S.b (C 44 [y21] H22) fun y23 H24 =>
    S.c true (S.b (up (binB Try.prog .mul 3 (.int .i64 2) y15) H24) fun y25 H26 =>
     S.b (up (binB Try.prog .add 3 y25 (.int .i64 1)) H26) fun y27 H28 =>
     S.b (up (idxS y12 y27) H28) fun y29 H30 =>
     S.b (C 44 [y29] H30) fun y31 H32 =>
     S.c true (S.b (up (binB Try.prog .lss 3 y23 (.int .i64 0)) H32) fun y33 H34 =>
      S.b (gd (wd y33 false) (some (y31, H34)) H34) fun y35 H36 =>
      S.b (gd (wd y33 false) (up (binB Try.prog .lss 3 y35 (.int .i64 0)) H36) H36) fun y37 H38 =>
      S.b (pickV y33 (.bool true) y37 H38) fun y39 H40 =>
      S.i y39
      (S.b (bld (rep 32 [(.int .u8 0)]) [] H40) fun y41 H42 =>
       S.b (stV 32 y13 y41 H42) fun _ H43 =>
       (resM [(ldA 32 y13 H43).map (·.1), some (.int .i64 4)]).map fun l => (one l, H43))
      (S.b (up (binB Try.prog .mul 3 (.int .i64 16) y23) H40) fun y44 H45 =>
       S.b (up (binB Try.prog .add 3 y44 y31) H45) fun y46 H47 =>
       S.b (cvI .u8 y46 H47) fun y48 H49 =>
       S.b (up (iAddrA 32 1 y14 y15) H49) fun y50 H51 =>
       S.b (stV 1 y50 y48 H51) fun _ H52 =>
       S.b (up (binB Try.prog .add 3 y15 (.int .i64 1)) H52) fun y53 H54 =>
       f26_L0 S C n m y12 y13 y14 y53 H54))))
   (S.b (ldA 32 y14 H18) fun y55 H56 =>
    S.b (stV 32 y13 y55 H56) fun _ H57 =>
    (resM [(ldA 32 y13 H57).map (·.1), some (.int .i64 0)]).map fun l => (one l, H57))

theorem f26_L0_eq (S : Seam (Value × Heap)) (C : CallF) (n : Nat) : ∀ (m : Nat) (env : Env) (H : Heap), aloopK (acodeK S Try.prog C n 42 (cAt f26_c [1, 1, 1, 0, 1, 0, 0])) m env H (kAt S Try.prog C n 42 f26_c [1, 1, 1, 0, 1, 0] (fin Try.prog Try.f26)) = f26_L0 S C n m (env 0) (env 2) (env 4) (env 5) H := by
  intro m env H
  refine aloopK_eq (L := fun m env H => f26_L0 S C n m (env 0) (env 2) (env 4) (env 5) H) (fun env H => rfl) (fun m env H => ?_) m env H
  kernel_rfl


noncomputable def f26 (S : Seam (Value × Heap)) (C : CallF) (n : Nat) (x0 : Value) (H : Heap) : Option (Value × Heap) :=
 S.b (newV (rep 32 [(.int .u8 0)]) H) fun y1 H2 =>
 S.b (up (lenStr x0) H2) fun y3 H4 =>
 S.b (up (binB Try.prog .neq 3 y3 (.int .i64 64)) H4) fun y5 H6 =>
 S.i y5
 (S.b (bld (rep 32 [(.int .u8 0)]) [] H6) fun y7 H8 =>
  S.b (stV 32 y1 y7 H8) fun _ H9 =>
  (resM [(ldA 32 y1 H9).map (·.1), some (.int .i64 4)]).map fun l => (one l, H9))
 (S.b (newV (rep 32 [(.int .u8 0)]) H6) fun y10 H11 =>
  f26_L0 S C n n x0 y1 y10 (.int .i64 0) H11)

noncomputable def f26G (S : Seam (Value × Heap)) (C : CallF) (n : Nat) (P0 : Env → Heap → Option (Value × Heap)) (x0 : Value) (H : Heap) : Option (Value × Heap) :=
 S.b (newV (rep 32 [(.int .u8 0)]) H) fun y58 H59 =>
 S.b (up (lenStr x0) H59) fun y60 H61 =>
 S.b (up (binB Try.prog .neq 3 y60 (.int .i64 64)) H61) fun y62 H63 =>
 S.i y62
 (S.b (bld (rep 32 [(.int .u8 0)]) [] H63) fun y64 H65 =>
  S.b (stV 32 y58 y64 H65) fun u66 H67 =>
  (resM [(ldA 32 y58 H67).map (·.1), some (.int .i64 4)]).map fun l => (one l, H67))
 (S.b (newV (rep 32 [(.int .u8 0)]) H63) fun y68 H69 =>
  P0 (putE 42 (putE 42 (putE 42 (putE 42 (putE 42 (putE 42 (putE 42 (env0 [x0]) (some 2) y58) (some 3) (.int .i64 0)) (some 8) x0) (some 9) y60) (some 10) y62) (some 4) y68) (some 5) (.int .i64 0)) H69)

theorem f26_main (S : Seam (Value × Heap)) (C : CallF) (n : Nat) (x0 : Value) (H : Heap) : acodeK S Try.prog C n 42 f26_c (env0 [x0]) H (fin Try.prog Try.f26) = f26 S C n x0 H := by
  have h1 : acodeK S Try.prog C n 42 f26_c (env0 [x0]) H (fin Try.prog Try.f26) = f26G S C n (fun env H => aloopK (acodeK S Try.prog C n 42 (cAt f26_c [1, 1, 1, 0, 1, 0, 0])) n env H (kAt S Try.prog C n 42 f26_c [1, 1, 1, 0, 1, 0] (fin Try.prog Try.f26))) x0 H := by kernel_rfl
  have e0 : (fun env H => aloopK (acodeK S Try.prog C n 42 (cAt f26_c [1, 1, 1, 0, 1, 0, 0])) n env H (kAt S Try.prog C n 42 f26_c [1, 1, 1, 0, 1, 0] (fin Try.prog Try.f26))) = (fun env H => f26_L0 S C n n (env 0) (env 2) (env 4) (env 5) H) := by funext env H; exact f26_L0_eq S C n n env H
  rw [e0] at h1
  exact h1.trans (by kernel_rfl)


theorem f26_eq {gl : Bool} {E : Ext} (hE : E 26 = none) (n : Nat) (x0 : Value) (H : Heap) : acall Try.prog gl E (n + 1) 26 [x0] H = f26 real (acall Try.prog gl E n) n x0 H :=
  (acall_eq (N := 42) Try.func26 (by kernel_rfl) (by kernel_rfl) hE (okgl f26_c (by kernel_rfl)) (by kernel_rfl)).trans (f26_main real _ n x0 H)

/-! incunable/incunableref04.Hex -/
noncomputable def f28_c : Code := (Try.f28.body).getD .skip

noncomputable def f28_L0 (S : Seam (Value × Heap)) (C : CallF) (n : Nat) : Nat → Value → Value → Value → Heap → Option (Value × Heap)
 | 0, _, _, _, _ => none
 | m + 1, y3, y4, y5, H6 =>
   S.b (up (binB Try.prog .lss 3 y5 (.int .i64 32)) H6) fun y7 H8 =>
   S.i y7
   (S.b (up (iAddrA 32 1 y3 y5) H8) fun y9 H10 =>
    S.c true (S.b (ldC y9 H10) fun y11 H12 =>
    S.b (cvI .i64 y11 H12) fun y13 H14 =>
    S.b (up (binB Try.prog .quo 3 y13 (.int .i64 16)) H14) fun y15 H16 =>
    S.b (C 47 [y15] H16) fun y17 H18 =>
    S.c true (S.b (up (iAddrA 32 1 y3 y5) H18) fun y19 H20 =>
     S.c ((sameBlk H16 H18 (blkOf y19)) && true) (S.b (ldC y19 H20) fun y21 H22 =>
     S.b (cvI .i64 y21 H22) fun y23 H24 =>
     S.b (up (binB Try.prog .rem 3 y23 (.int .i64 16)) H24) fun y25 H26 =>
     S.b (C 47 [y25] H26) fun y27 H28 =>
     S.c true (S.b (bldS 1 2 [(.int .u8 0)] [(0, 1, y17), (1, 1, y27)] H28) fun y29 H30 =>
      S.b (app 1 1 y4 y29 H30) fun y31 H32 =>
      S.c true (S.b (up (binB Try.prog .add 3 y5 (.int .i64 1)) H32) fun y33 H34 =>
       f28_L0 S C n m y3 y31 y33 H34))))))
   (S.b (toStr y4 H8) fun y35 H36 =>
    some (y35, H36))

theorem f28_L0_eq (S : Seam (Value × Heap)) (C : CallF) (n : Nat) : ∀ (m : Nat) (env : Env) (H : Heap), aloopK (acodeK S Try.prog C n 26 (cAt f28_c [1, 1, 0, 1, 0, 0])) m env H (kAt S Try.prog C n 26 f28_c [1, 1, 0, 1, 0] (fin Try.prog Try.f28)) = f28_L0 S C n m (env 1) (env 3) (env 4) H := by
  intro m env H
  refine aloopK_eq (L := fun m env H => f28_L0 S C n m (env 1) (env 3) (env 4) H) (fun env H => rfl) (fun m env H => ?_) m env H
  kernel_rfl


noncomputable def f28 (S : Seam (Value × Heap)) (C : CallF) (n : Nat) (x0 : Value) (H : Heap) : Option (Value × Heap) :=
 S.b (newV (Value.cells x0).toList H) fun y1 H2 =>
 f28_L0 S C n n y1 (.slice none 0 0) (.int .i64 0) H2

noncomputable def f28G (S : Seam (Value × Heap)) (C : CallF) (n : Nat) (P0 : Env → Heap → Option (Value × Heap)) (x0 : Value) (H : Heap) : Option (Value × Heap) :=
 S.b (newV (Value.cells x0).toList H) fun y37 H38 =>
 P0 (putE 26 (putE 26 (putE 26 (putE 26 (env0 [x0]) (some 1) y37) (some 2) (.string ⟨#[]⟩)) (some 3) (.slice none 0 0)) (some 4) (.int .i64 0)) H38

theorem f28_main (S : Seam (Value × Heap)) (C : CallF) (n : Nat) (x0 : Value) (H : Heap) : acodeK S Try.prog C n 26 f28_c (env0 [x0]) H (fin Try.prog Try.f28) = f28 S C n x0 H := by
  have h1 : acodeK S Try.prog C n 26 f28_c (env0 [x0]) H (fin Try.prog Try.f28) = f28G S C n (fun env H => aloopK (acodeK S Try.prog C n 26 (cAt f28_c [1, 1, 0, 1, 0, 0])) n env H (kAt S Try.prog C n 26 f28_c [1, 1, 0, 1, 0] (fin Try.prog Try.f28))) x0 H := by kernel_rfl
  have e0 : (fun env H => aloopK (acodeK S Try.prog C n 26 (cAt f28_c [1, 1, 0, 1, 0, 0])) n env H (kAt S Try.prog C n 26 f28_c [1, 1, 0, 1, 0] (fin Try.prog Try.f28))) = (fun env H => f28_L0 S C n n (env 1) (env 3) (env 4) H) := by funext env H; exact f28_L0_eq S C n n env H
  rw [e0] at h1
  exact h1.trans (by kernel_rfl)


theorem f28_eq {gl : Bool} {E : Ext} (hE : E 28 = none) (n : Nat) (x0 : Value) (H : Heap) : acall Try.prog gl E (n + 1) 28 [x0] H = f28 real (acall Try.prog gl E n) n x0 H :=
  (acall_eq (N := 26) Try.func28 (by kernel_rfl) (by kernel_rfl) hE (okgl f28_c (by kernel_rfl)) (by kernel_rfl)).trans (f28_main real _ n x0 H)

/-! incunable/sha.atMost -/
noncomputable def f29_c : Code := (Try.f29.body).getD .skip

noncomputable def f29 (S : Seam (Value × Heap)) (C : CallF) (n : Nat) (x0 : Value) (x1 : Value) (x2 : Value) (H : Heap) : Option (Value × Heap) :=
 S.b (C 48 [x0, x0] H) fun y1 H2 =>
 S.b (extr 0 y1 H2) fun y3 H4 =>
 S.b (extr 1 y1 H4) fun y5 H6 =>
 S.b (up (binB Try.prog .eql 3 x1 (.int .i64 2)) H6) fun y7 H8 =>
 S.i y7
 (S.b (cvI .u64 x2 H8) fun y9 H10 =>
  S.b (up (binB Try.prog .lss 49 y3 y9) H10) fun y11 H12 =>
  S.b (gd (wd y11 false) (some (y3, H12)) H12) fun y13 H14 =>
  S.b (gd (wd y11 false) (some (x2, H14)) H14) fun y15 H16 =>
  S.b (gd (wd y11 false) (cvI .u64 y15 H16) H16) fun y17 H18 =>
  S.b (gd (wd y11 false) (up (binB Try.prog .eql 49 y13 y17) H18) H18) fun y19 H20 =>
  S.b (gd (wd y11 false) (some (y19, H20)) H20) fun y21 H22 =>
  S.b (gd (wd y21 true) (some (y5, H22)) H22) fun y23 H24 =>
  S.b (gd (wd y21 true) (up (binB Try.prog .eql 49 y23 (.int .u64 0)) H24) H24) fun y25 H26 =>
  S.b (gd (wd y11 false) (pickV y21 y25 (.bool false) H26) H26) fun y27 H28 =>
  S.b (pickV y11 (.bool true) y27 H28) fun y29 H30 =>
  some (y29, H30))
 (S.b (C 48 [y3, x0] H8) fun y31 H32 =>
  S.b (extr 0 y31 H32) fun y33 H34 =>
  S.b (extr 1 y31 H34) fun y35 H36 =>
  S.b (C 48 [y5, x0] H36) fun y37 H38 =>
  S.b (extr 0 y37 H38) fun y39 H40 =>
  S.b (extr 1 y37 H40) fun y41 H42 =>
  S.b (C 49 [y35, y39, (.int .u64 0)] H42) fun y43 H44 =>
  S.b (extr 0 y43 H44) fun y45 H46 =>
  S.b (extr 1 y43 H46) fun y47 H48 =>
  S.b (up (binB Try.prog .add 49 y33 y47) H48) fun y49 H50 =>
  S.b (cvI .u64 x2 H50) fun y51 H52 =>
  S.b (up (binB Try.prog .shl 49 y51 (.int .u64 32)) H52) fun y53 H54 =>
  S.b (up (binB Try.prog .eql 49 y49 (.int .u64 0)) H54) fun y55 H56 =>
  S.b (gd (wd y55 true) (some (y45, H56)) H56) fun y57 H58 =>
  S.b (gd (wd y55 true) (some (y53, H58)) H58) fun y59 H60 =>
  S.b (gd (wd y55 true) (up (binB Try.prog .lss 49 y57 y59) H60) H60) fun y61 H62 =>
  S.b (gd (wd y55 true) (some (y61, H62)) H62) fun y63 H64 =>
  S.b (gd (wd y63 false) (some (y45, H64)) H64) fun y65 H66 =>
  S.b (gd (wd y63 false) (some (y53, H66)) H66) fun y67 H68 =>
  S.b (gd (wd y63 false) (up (binB Try.prog .eql 49 y65 y67) H68) H68) fun y69 H70 =>
  S.b (gd (wd y63 false) (some (y69, H70)) H70) fun y71 H72 =>
  S.b (gd (wd y71 true) (some (y41, H72)) H72) fun y73 H74 =>
  S.b (gd (wd y71 true) (up (binB Try.prog .eql 49 y73 (.int .u64 0)) H74) H74) fun y75 H76 =>
  S.b (gd (wd y63 false) (pickV y71 y75 (.bool false) H76) H76) fun y77 H78 =>
  S.b (gd (wd y55 true) (pickV y63 (.bool true) y77 H78) H78) fun y79 H80 =>
  S.b (pickV y55 y79 (.bool false) H80) fun y81 H82 =>
  some (y81, H82))

theorem f29_main (S : Seam (Value × Heap)) (C : CallF) (n : Nat) (x0 : Value) (x1 : Value) (x2 : Value) (H : Heap) : acodeK S Try.prog C n 77 f29_c (env0 [x0, x1, x2]) H (fin Try.prog Try.f29) = f29 S C n x0 x1 x2 H := by
  kernel_rfl


theorem f29_eq {gl : Bool} {E : Ext} (hE : E 29 = none) (n : Nat) (x0 : Value) (x1 : Value) (x2 : Value) (H : Heap) : acall Try.prog gl E (n + 1) 29 [x0, x1, x2] H = f29 real (acall Try.prog gl E n) n x0 x1 x2 H :=
  (acall_eq (N := 77) Try.func29 (by kernel_rfl) (by kernel_rfl) hE (okgl f29_c (by kernel_rfl)) (by kernel_rfl)).trans (f29_main real _ n x0 x1 x2 H)

/-! incunable/incunableref04.digits -/
noncomputable def f30_c : Code := (Try.f30.body).getD .skip

noncomputable def f30 (S : Seam (Value × Heap)) (C : CallF) (n : Nat) (x0 : Value) (H : Heap) : Option (Value × Heap) :=
 S.b (up (binB Try.prog .and 3 x0 (.int .i64 65535)) H) fun y1 H2 =>
 S.b (up (binB Try.prog .shr 3 x0 (.int .u64 16)) H2) fun y3 H4 =>
 S.b (up (binB Try.prog .and 3 y3 (.int .i64 65535)) H4) fun y5 H6 =>
 S.b (up (binB Try.prog .shr 3 x0 (.int .u64 32)) H6) fun y7 H8 =>
 S.b (bldS 1 3 [(.int .i64 0)] [(0, 1, y1), (1, 1, y5), (2, 1, y7)] H8) fun y9 H10 =>
 some (y9, H10)

theorem f30_main (S : Seam (Value × Heap)) (C : CallF) (n : Nat) (x0 : Value) (H : Heap) : acodeK S Try.prog C n 11 f30_c (env0 [x0]) H (fin Try.prog Try.f30) = f30 S C n x0 H := by
  kernel_rfl


theorem f30_eq {gl : Bool} {E : Ext} (hE : E 30 = none) (n : Nat) (x0 : Value) (H : Heap) : acall Try.prog gl E (n + 1) 30 [x0] H = f30 real (acall Try.prog gl E n) n x0 H :=
  (acall_eq (N := 11) Try.func30 (by kernel_rfl) (by kernel_rfl) hE (okgl f30_c (by kernel_rfl)) (by kernel_rfl)).trans (f30_main real _ n x0 H)

/-! incunable/incunableref04.times -/
noncomputable def f31_c : Code := (Try.f31.body).getD .skip

noncomputable def f31_L1 (S : Seam (Value × Heap)) (C : CallF) (n : Nat) (R0 : Value→Value→Value→Value→Heap→Option (Value × Heap)) : Nat → Value → Value → Value → Value → Value → Value → Heap → Option (Value × Heap)
 | 0, _, _, _, _, _, _, _ => none
 | m + 1, y18, y19, y20, y21, y22, y23, H24 =>
   S.b (up (lenS y19) H24) fun y25 H26 =>
   S.b (up (binB Try.prog .lss 3 y23 y25) H26) fun y27 H28 =>
   S.i y27
   (S.b (up (binB Try.prog .add 3 y21 y23) H28) fun y29 H30 =>
    S.b (up (iAddrS 1 y20 y29) H30) fun y31 H32 =>
    S.c true (S.b (ldC y31 H32) fun y33 H34 =>
    S.b (up (iAddrS 1 y18 y21) H34) fun y35 H36 =>
    S.c true (S.b (ldC y35 H36) fun y37 H38 =>
    S.b (up (iAddrS 1 y19 y23) H38) fun y39 H40 =>
    S.c true (S.b (ldC y39 H40) fun y41 H42 =>
    S.b (up (binB Try.prog .mul 3 y37 y41) H42) fun y43 H44 =>
    S.b (up (binB Try.prog .add 3 y33 y43) H44) fun y45 H46 =>
    S.b (up (binB Try.prog .add 3 y45 y22) H46) fun y47 H48 =>
    S.b (up (binB Try.prog .add 3 y21 y23) H48) fun y49 H50 =>
    S.b (up (binB Try.prog .and 3 y47 (.int .i64 65535)) H50) fun y51 H52 =>
    S.b (up (iAddrS 1 y20 y49) H52) fun y53 H54 =>
    S.b (stV 1 y53 y51 H54) fun _ H55 =>
    S.b (up (binB Try.prog .shr 3 y47 (.int .u64 16)) H55) fun y56 H57 =>
    S.b (up (binB Try.prog .add 3 y23 (.int .i64 1)) H57) fun y58 H59 =>
    f31_L1 S C n R0 m y18 y19 y20 y21 y56 y58 H59))))
   (S.b (up (lenS y19) H28) fun y60 H61 =>
    S.b (up (binB Try.prog .add 3 y21 y60) H61) fun y62 H63 =>
    S.b (up (lenS y19) H63) fun y64 H65 =>
    S.b (up (binB Try.prog .add 3 y21 y64) H65) fun y66 H67 =>
    S.b (up (iAddrS 1 y20 y66) H67) fun y68 H69 =>
    S.b (ldC y68 H69) fun y70 H71 =>
    S.b (up (binB Try.prog .add 3 y70 y22) H71) fun y72 H73 =>
    S.b (up (iAddrS 1 y20 y62) H73) fun y74 H75 =>
    S.b (stV 1 y74 y72 H75) fun _ H76 =>
    S.b (up (binB Try.prog .add 3 y21 (.int .i64 1)) H76) fun y77 H78 =>
    R0 y18 y19 y20 y77 H78)

theorem f31_L1_eq (S : Seam (Value × Heap)) (C : CallF) (n : Nat) (R0 : Value→Value→Value→Value→Heap→Option (Value × Heap)) : ∀ (m : Nat) (env : Env) (H : Heap), aloopK (acodeK S Try.prog C n 71 (cAt f31_c [1, 1, 0, 1, 0, 0, 1, 0, 0, 1, 0, 1, 0, 0])) m env H (kAt S Try.prog C n 71 (cAt f31_c [1, 1, 0, 1, 0, 0]) [1, 0, 0, 1, 0, 1, 0] (onNormal (fun env' H' => R0 (env' 0) (env' 1) (env' 5) (env' 6) H') (kAt S Try.prog C n 71 f31_c [1, 1, 0, 1, 0] (fin Try.prog Try.f31)))) = f31_L1 S C n R0 m (env 0) (env 1) (env 5) (env 6) (env 7) (env 8) H := by
  intro m env H
  refine aloopK_eq (L := fun m env H => f31_L1 S C n R0 m (env 0) (env 1) (env 5) (env 6) (env 7) (env 8) H) (fun env H => rfl) (fun m env H => ?_) m env H
  kernel_rfl


noncomputable def f31_L0 (S : Seam (Value × Heap)) (C : CallF) (n : Nat) : Nat → Value → Value → Value → Value → Heap → Option (Value × Heap)
 | 0, _, _, _, _, _ => none
 | m + 1, y9, y10, y11, y12, H13 =>
   S.b (up (lenS y9) H13) fun y14 H15 =>
   S.b (up (binB Try.prog .lss 3 y12 y14) H15) fun y16 H17 =>
   S.i y16
   (f31_L1 S C n (f31_L0 S C n m) n y9 y10 y11 y12 (.int .i64 0) (.int .i64 0) H17)
   (some (y11, H17))

noncomputable def f31_L0G (S : Seam (Value × Heap)) (C : CallF) (n : Nat) (R0 : Value→Value→Value→Value→Heap→Option (Value × Heap)) (P1 : Env → Heap → Option (Value × Heap)) (env : Env) (H : Heap) : Option (Value × Heap) :=
 S.b (up (lenS (env 0)) H) fun y79 H80 =>
 S.b (up (binB Try.prog .lss 3 (env 6) y79) H80) fun y81 H82 =>
 S.i y81
 (P1 (putE 71 (putE 71 (putE 71 (putE 71 (putE 71 (putE 71 env (some 16) (env 6)) (some 17) (env 0)) (some 18) y79) (some 19) y81) (some 7) (.int .i64 0)) (some 8) (.int .i64 0)) H82)
 (some ((env 5), H82))

theorem f31_L0_eq (S : Seam (Value × Heap)) (C : CallF) (n : Nat) : ∀ (m : Nat) (env : Env) (H : Heap), aloopK (acodeK S Try.prog C n 71 (cAt f31_c [1, 1, 0, 1, 0, 0])) m env H (kAt S Try.prog C n 71 f31_c [1, 1, 0, 1, 0] (fin Try.prog Try.f31)) = f31_L0 S C n m (env 0) (env 1) (env 5) (env 6) H := by
  intro m env H
  refine aloopK_eq (L := fun m env H => f31_L0 S C n m (env 0) (env 1) (env 5) (env 6) H) (fun env H => rfl) (fun m env H => ?_) m env H
  have h1 : acodeK S Try.prog C n 71 (cAt f31_c [1, 1, 0, 1, 0, 0]) env H (onNormal (fun env' H' => f31_L0 S C n m (env' 0) (env' 1) (env' 5) (env' 6) H') (kAt S Try.prog C n 71 f31_c [1, 1, 0, 1, 0] (fin Try.prog Try.f31))) = f31_L0G S C n (f31_L0 S C n m) (fun env H => aloopK (acodeK S Try.prog C n 71 (cAt f31_c [1, 1, 0, 1, 0, 0, 1, 0, 0, 1, 0, 1, 0, 0])) n env H (kAt S Try.prog C n 71 (cAt f31_c [1, 1, 0, 1, 0, 0]) [1, 0, 0, 1, 0, 1, 0] (onNormal (fun env' H' => (f31_L0 S C n m) (env' 0) (env' 1) (env' 5) (env' 6) H') (kAt S Try.prog C n 71 f31_c [1, 1, 0, 1, 0] (fin Try.prog Try.f31))))) env H := by kernel_rfl
  have e0 : (fun env H => aloopK (acodeK S Try.prog C n 71 (cAt f31_c [1, 1, 0, 1, 0, 0, 1, 0, 0, 1, 0, 1, 0, 0])) n env H (kAt S Try.prog C n 71 (cAt f31_c [1, 1, 0, 1, 0, 0]) [1, 0, 0, 1, 0, 1, 0] (onNormal (fun env' H' => (f31_L0 S C n m) (env' 0) (env' 1) (env' 5) (env' 6) H') (kAt S Try.prog C n 71 f31_c [1, 1, 0, 1, 0] (fin Try.prog Try.f31))))) = (fun env H => f31_L1 S C n (f31_L0 S C n m) n (env 0) (env 1) (env 5) (env 6) (env 7) (env 8) H) := by funext env H; exact f31_L1_eq S C n (f31_L0 S C n m) n env H
  rw [e0] at h1
  exact h1.trans (by kernel_rfl)


noncomputable def f31 (S : Seam (Value × Heap)) (C : CallF) (n : Nat) (x0 : Value) (x1 : Value) (H : Heap) : Option (Value × Heap) :=
 S.b (up (lenS x0) H) fun y1 H2 =>
 S.b (up (lenS x1) H2) fun y3 H4 =>
 S.b (up (binB Try.prog .add 3 y1 y3) H4) fun y5 H6 =>
 S.b (mkS 1 8 [(.int .i64 0)] y5 y5 H6) fun y7 H8 =>
 f31_L0 S C n n x0 x1 y7 (.int .i64 0) H8

noncomputable def f31G (S : Seam (Value × Heap)) (C : CallF) (n : Nat) (P0 : Env → Heap → Option (Value × Heap)) (x0 : Value) (x1 : Value) (H : Heap) : Option (Value × Heap) :=
 S.b (up (lenS x0) H) fun y83 H84 =>
 S.b (up (lenS x1) H84) fun y85 H86 =>
 S.b (up (binB Try.prog .add 3 y83 y85) H86) fun y87 H88 =>
 S.b (mkS 1 8 [(.int .i64 0)] y87 y87 H88) fun y89 H90 =>
 P0 (putE 71 (putE 71 (putE 71 (putE 71 (putE 71 (putE 71 (putE 71 (putE 71 (putE 71 (env0 [x0, x1]) (some 4) (.slice none 0 0)) (some 10) x0) (some 11) y83) (some 12) x1) (some 13) y85) (some 14) y87) (some 15) y89) (some 5) y89) (some 6) (.int .i64 0)) H90

theorem f31_main (S : Seam (Value × Heap)) (C : CallF) (n : Nat) (x0 : Value) (x1 : Value) (H : Heap) : acodeK S Try.prog C n 71 f31_c (env0 [x0, x1]) H (fin Try.prog Try.f31) = f31 S C n x0 x1 H := by
  have h1 : acodeK S Try.prog C n 71 f31_c (env0 [x0, x1]) H (fin Try.prog Try.f31) = f31G S C n (fun env H => aloopK (acodeK S Try.prog C n 71 (cAt f31_c [1, 1, 0, 1, 0, 0])) n env H (kAt S Try.prog C n 71 f31_c [1, 1, 0, 1, 0] (fin Try.prog Try.f31))) x0 x1 H := by kernel_rfl
  have e0 : (fun env H => aloopK (acodeK S Try.prog C n 71 (cAt f31_c [1, 1, 0, 1, 0, 0])) n env H (kAt S Try.prog C n 71 f31_c [1, 1, 0, 1, 0] (fin Try.prog Try.f31))) = (fun env H => f31_L0 S C n n (env 0) (env 1) (env 5) (env 6) H) := by funext env H; exact f31_L0_eq S C n n env H
  rw [e0] at h1
  exact h1.trans (by kernel_rfl)


theorem f31_eq {gl : Bool} {E : Ext} (hE : E 31 = none) (n : Nat) (x0 : Value) (x1 : Value) (H : Heap) : acall Try.prog gl E (n + 1) 31 [x0, x1] H = f31 real (acall Try.prog gl E n) n x0 x1 H :=
  (acall_eq (N := 71) Try.func31 (by kernel_rfl) (by kernel_rfl) hE (okgl f31_c (by kernel_rfl)) (by kernel_rfl)).trans (f31_main real _ n x0 x1 H)

/-! incunable/incunableref04.above -/
noncomputable def f32_c : Code := (Try.f32.body).getD .skip

noncomputable def f32_J1 (S : Seam (Value × Heap)) (C : CallF) (n : Nat) (R0 : Value→Value→Value→Heap→Option (Value × Heap)) (y37 y38 y39 y40 y41 : Value) (H42 : Heap) : Option (Value × Heap) :=
 S.b (up (binB Try.prog .neq 3 y40 y41) H42) fun y43 H44 =>
 S.i y43
 (S.b (up (binB Try.prog .gtr 3 y40 y41) H44) fun y45 H46 =>
  some (y45, H46))
 (S.b (up (binB Try.prog .sub 3 y39 (.int .i64 1)) H44) fun y47 H48 =>
  R0 y37 y38 y47 H48)

noncomputable def f32_J2 (S : Seam (Value × Heap)) (C : CallF) (n : Nat) (R0 : Value→Value→Value→Heap→Option (Value × Heap)) (y23 y24 y25 y26 y27 : Value) (H28 : Heap) : Option (Value × Heap) :=
 S.b (up (lenS y24) H28) fun y29 H30 =>
 S.b (up (binB Try.prog .lss 3 y25 y29) H30) fun y31 H32 =>
 S.i y31
 (S.b (up (iAddrS 1 y24 y25) H32) fun y33 H34 =>
  S.b (ldC y33 H34) fun y35 H36 =>
  f32_J1 S C n R0 y23 y24 y25 y26 y35 H36)
 (f32_J1 S C n R0 y23 y24 y25 y26 y27 H32)

noncomputable def f32_L0 (S : Seam (Value × Heap)) (C : CallF) (n : Nat) : Nat → Value → Value → Value → Heap → Option (Value × Heap)
 | 0, _, _, _, _ => none
 | m + 1, y9, y10, y11, H12 =>
   S.b (up (binB Try.prog .geq 3 y11 (.int .i64 0)) H12) fun y13 H14 =>
   S.i y13
   (S.b (up (lenS y9) H14) fun y15 H16 =>
    S.b (up (binB Try.prog .lss 3 y11 y15) H16) fun y17 H18 =>
    S.i y17
    (S.b (up (iAddrS 1 y9 y11) H18) fun y19 H20 =>
     S.b (ldC y19 H20) fun y21 H22 =>
     f32_J2 S C n (f32_L0 S C n m) y9 y10 y11 y21 (.int .i64 0) H22)
    (f32_J2 S C n (f32_L0 S C n m) y9 y10 y11 (.int .i64 0) (.int .i64 0) H18))
   (some ((.bool false), H14))

theorem f32_L0_eq (S : Seam (Value × Heap)) (C : CallF) (n : Nat) : ∀ (m : Nat) (env : Env) (H : Heap), aloopK (acodeK S Try.prog C n 42 (cAt f32_c [1, 1, 0, 1, 0, 0])) m env H (kAt S Try.prog C n 42 f32_c [1, 1, 0, 1, 0] (fin Try.prog Try.f32)) = f32_L0 S C n m (env 0) (env 1) (env 6) H := by
  intro m env H
  refine aloopK_eq (L := fun m env H => f32_L0 S C n m (env 0) (env 1) (env 6) H) (fun env H => rfl) (fun m env H => ?_) m env H
  kernel_rfl


noncomputable def f32 (S : Seam (Value × Heap)) (C : CallF) (n : Nat) (x0 : Value) (x1 : Value) (H : Heap) : Option (Value × Heap) :=
 S.b (up (lenS x0) H) fun y1 H2 =>
 S.b (up (lenS x1) H2) fun y3 H4 =>
 S.b (maxV y1 y3 H4) fun y5 H6 =>
 S.b (up (binB Try.prog .sub 3 y5 (.int .i64 1)) H6) fun y7 H8 =>
 f32_L0 S C n n x0 x1 y7 H8

noncomputable def f32G (S : Seam (Value × Heap)) (C : CallF) (n : Nat) (P0 : Env → Heap → Option (Value × Heap)) (x0 : Value) (x1 : Value) (H : Heap) : Option (Value × Heap) :=
 S.b (up (lenS x0) H) fun y49 H50 =>
 S.b (up (lenS x1) H50) fun y51 H52 =>
 S.b (maxV y49 y51 H52) fun y53 H54 =>
 S.b (up (binB Try.prog .sub 3 y53 (.int .i64 1)) H54) fun y55 H56 =>
 P0 (putE 42 (putE 42 (putE 42 (putE 42 (putE 42 (putE 42 (putE 42 (putE 42 (putE 42 (putE 42 (env0 [x0, x1]) (some 4) (.bool false)) (some 9) x0) (some 10) y49) (some 11) x1) (some 12) y51) (some 13) y53) (some 5) y53) (some 14) y53) (some 15) y55) (some 6) y55) H56

theorem f32_main (S : Seam (Value × Heap)) (C : CallF) (n : Nat) (x0 : Value) (x1 : Value) (H : Heap) : acodeK S Try.prog C n 42 f32_c (env0 [x0, x1]) H (fin Try.prog Try.f32) = f32 S C n x0 x1 H := by
  have h1 : acodeK S Try.prog C n 42 f32_c (env0 [x0, x1]) H (fin Try.prog Try.f32) = f32G S C n (fun env H => aloopK (acodeK S Try.prog C n 42 (cAt f32_c [1, 1, 0, 1, 0, 0])) n env H (kAt S Try.prog C n 42 f32_c [1, 1, 0, 1, 0] (fin Try.prog Try.f32))) x0 x1 H := by kernel_rfl
  have e0 : (fun env H => aloopK (acodeK S Try.prog C n 42 (cAt f32_c [1, 1, 0, 1, 0, 0])) n env H (kAt S Try.prog C n 42 f32_c [1, 1, 0, 1, 0] (fin Try.prog Try.f32))) = (fun env H => f32_L0 S C n n (env 0) (env 1) (env 6) H) := by funext env H; exact f32_L0_eq S C n n env H
  rw [e0] at h1
  exact h1.trans (by kernel_rfl)


theorem f32_eq {gl : Bool} {E : Ext} (hE : E 32 = none) (n : Nat) (x0 : Value) (x1 : Value) (H : Heap) : acall Try.prog gl E (n + 1) 32 [x0, x1] H = f32 real (acall Try.prog gl E n) n x0 x1 H :=
  (acall_eq (N := 42) Try.func32 (by kernel_rfl) (by kernel_rfl) hE (okgl f32_c (by kernel_rfl)) (by kernel_rfl)).trans (f32_main real _ n x0 x1 H)

/-! incunable/sha.keys -/
noncomputable def f33_c : Code := (Try.f33.body).getD .skip

noncomputable def f33 (S : Seam (Value × Heap)) (C : CallF) (n : Nat) (H : Heap) : Option (Value × Heap) :=
 S.b (newV (rep 64 [(.int .u32 0)]) H) fun y1 H2 =>
 S.b (bld (rep 64 [(.int .u32 0)]) [(0, 1, (.int .u32 1116352408)), (1, 1, (.int .u32 1899447441)), (2, 1, (.int .u32 3049323471)), (3, 1, (.int .u32 3921009573)), (4, 1, (.int .u32 961987163)), (5, 1, (.int .u32 1508970993)), (6, 1, (.int .u32 2453635748)), (7, 1, (.int .u32 2870763221)), (8, 1, (.int .u32 3624381080)), (9, 1, (.int .u32 310598401)), (10, 1, (.int .u32 607225278)), (11, 1, (.int .u32 1426881987)), (12, 1, (.int .u32 1925078388)), (13, 1, (.int .u32 2162078206)), (14, 1, (.int .u32 2614888103)), (15, 1, (.int .u32 3248222580)), (16, 1, (.int .u32 3835390401)), (17, 1, (.int .u32 4022224774)), (18, 1, (.int .u32 264347078)), (19, 1, (.int .u32 604807628)), (20, 1, (.int .u32 770255983)), (21, 1, (.int .u32 1249150122)), (22, 1, (.int .u32 1555081692)), (23, 1, (.int .u32 1996064986)), (24, 1, (.int .u32 2554220882)), (25, 1, (.int .u32 2821834349)), (26, 1, (.int .u32 2952996808)), (27, 1, (.int .u32 3210313671)), (28, 1, (.int .u32 3336571891)), (29, 1, (.int .u32 3584528711)), (30, 1, (.int .u32 113926993)), (31, 1, (.int .u32 338241895)), (32, 1, (.int .u32 666307205)), (33, 1, (.int .u32 773529912)), (34, 1, (.int .u32 1294757372)), (35, 1, (.int .u32 1396182291)), (36, 1, (.int .u32 1695183700)), (37, 1, (.int .u32 1986661051)), (38, 1, (.int .u32 2177026350)), (39, 1, (.int .u32 2456956037)), (40, 1, (.int .u32 2730485921)), (41, 1, (.int .u32 2820302411)), (42, 1, (.int .u32 3259730800)), (43, 1, (.int .u32 3345764771)), (44, 1, (.int .u32 3516065817)), (45, 1, (.int .u32 3600352804)), (46, 1, (.int .u32 4094571909)), (47, 1, (.int .u32 275423344)), (48, 1, (.int .u32 430227734)), (49, 1, (.int .u32 506948616)), (50, 1, (.int .u32 659060556)), (51, 1, (.int .u32 883997877)), (52, 1, (.int .u32 958139571)), (53, 1, (.int .u32 1322822218)), (54, 1, (.int .u32 1537002063)), (55, 1, (.int .u32 1747873779)), (56, 1, (.int .u32 1955562222)), (57, 1, (.int .u32 2024104815)), (58, 1, (.int .u32 2227730452)), (59, 1, (.int .u32 2361852424)), (60, 1, (.int .u32 2428436474)), (61, 1, (.int .u32 2756734187)), (62, 1, (.int .u32 3204031479)), (63, 1, (.int .u32 3329325298))] H2) fun y3 H4 =>
 S.b (stV 64 y1 y3 H4) fun _ H5 =>
 (resM [(ldA 64 y1 H5).map (·.1)]).map fun l => (one l, H5)

theorem f33_main (S : Seam (Value × Heap)) (C : CallF) (n : Nat) (H : Heap) : acodeK S Try.prog C n 2 f33_c (env0 []) H (fin Try.prog Try.f33) = f33 S C n H := by
  kernel_rfl


theorem f33_eq {gl : Bool} {E : Ext} (hE : E 33 = none) (n : Nat) (H : Heap) : acall Try.prog gl E (n + 1) 33 [] H = f33 real (acall Try.prog gl E n) n H :=
  (acall_eq (N := 2) Try.func33 (by kernel_rfl) (by kernel_rfl) hE (okgl f33_c (by kernel_rfl)) (by kernel_rfl)).trans (f33_main real _ n H)

/-! incunable/sha.spread -/
noncomputable def f34_c : Code := (Try.f34.body).getD .skip

noncomputable def f34_J1 (S : Seam (Value × Heap)) (C : CallF) (n : Nat) (R0 : Value→Value→Value→Heap→Option (Value × Heap)) (y54 y55 y56 : Value) (H57 : Heap) : Option (Value × Heap) :=
 S.b (up (binB Try.prog .add 3 y56 (.int .i64 1)) H57) fun y58 H59 =>
 R0 y54 y55 y58 H59

noncomputable def f34_L1 (S : Seam (Value × Heap)) (C : CallF) (n : Nat) (R0 : Value→Value→Value→Heap→Option (Value × Heap)) : Nat → Value → Value → Value → Value → Value → Value → Value → Heap → Option (Value × Heap)
 | 0, _, _, _, _, _, _, _, _ => none
 | m + 1, y21, y22, y23, y24, y25, y26, y27, H28 =>
   S.b (up (binB Try.prog .lss 3 y27 y26) H28) fun y29 H30 =>
   S.i y29
   (S.b (up (iAddrS 1 y25 y27) H30) fun y31 H32 =>
    S.b (ldC y31 H32) fun y33 H34 =>
    S.b (up (iAddrA 64 1 y22 y23) H34) fun y35 H36 =>
    S.b (ldC y35 H36) fun y37 H38 =>
    S.b (up (binB Try.prog .shl 22 y37 (.int .u64 8)) H38) fun y39 H40 =>
    S.b (cvI .u32 y33 H40) fun y41 H42 =>
    S.b (up (binB Try.prog .or 22 y39 y41) H42) fun y43 H44 =>
    S.b (up (iAddrA 64 1 y22 y23) H44) fun y45 H46 =>
    S.b (stV 1 y45 y43 H46) fun _ H47 =>
    S.b (up (binB Try.prog .add 3 y27 (.int .i64 1)) H47) fun y48 H49 =>
    f34_L1 S C n R0 m y21 y22 y23 y24 y25 y26 y48 H49)
   (f34_J1 S C n R0 y21 y22 y24 H30)

theorem f34_L1_eq (S : Seam (Value × Heap)) (C : CallF) (n : Nat) (R0 : Value→Value→Value→Heap→Option (Value × Heap)) : ∀ (m : Nat) (env : Env) (H : Heap), aloopK (acodeK S Try.prog C n 74 (cAt f34_c [1, 0, 1, 0, 0, 1, 1, 0, 0, 1, 0, 1, 0, 0, 1, 0, 0])) m env H (kAt S Try.prog C n 74 (cAt f34_c [1, 0, 1, 0, 0]) [1, 1, 0, 0, 1, 0, 1, 0, 0, 1, 0] (onNormal (fun env' H' => R0 (env' 0) (env' 2) (env' 8) H') (kAt S Try.prog C n 74 f34_c [1, 0, 1, 0] (fin Try.prog Try.f34)))) = f34_L1 S C n R0 m (env 0) (env 2) (env 3) (env 8) (env 19) (env 20) (env 21) H := by
  intro m env H
  refine aloopK_eq (L := fun m env H => f34_L1 S C n R0 m (env 0) (env 2) (env 3) (env 8) (env 19) (env 20) (env 21) H) (fun env H => rfl) (fun m env H => ?_) m env H
  kernel_rfl


noncomputable def f34_L0 (S : Seam (Value × Heap)) (C : CallF) (n : Nat) : Nat → Value → Value → Value → Heap → Option (Value × Heap)
 | 0, _, _, _, _ => none
 | m + 1, y3, y4, y5, H6 =>
   S.b (up (binB Try.prog .lss 3 y5 (.int .i64 64)) H6) fun y7 H8 =>
   S.i y7
   (S.b (up (binB Try.prog .lss 3 y5 (.int .i64 16)) H8) fun y9 H10 =>
    S.i y9
    (S.b (up (binB Try.prog .mul 3 (.int .i64 4) y5) H10) fun y11 H12 =>
     S.b (up (binB Try.prog .add 3 y5 (.int .i64 1)) H12) fun y13 H14 =>
     S.b (up (binB Try.prog .mul 3 (.int .i64 4) y13) H14) fun y15 H16 =>
     S.b (up (slcS 1 y3 (some y11) (some y15) none) H16) fun y17 H18 =>
     S.b (up (lenS y17) H18) fun y19 H20 =>
     f34_L1 S C n (f34_L0 S C n m) n y3 y4 y5 y5 y17 y19 (.int .i64 0) H20)
    (S.b (up (binB Try.prog .sub 3 y5 (.int .i64 15)) H10) fun y60 H61 =>
     S.b (up (iAddrA 64 1 y4 y60) H61) fun y62 H63 =>
     S.c true (S.b (ldC y62 H63) fun y64 H65 =>
     S.b (up (binB Try.prog .sub 3 y5 (.int .i64 2)) H65) fun y66 H67 =>
     S.b (up (iAddrA 64 1 y4 y66) H67) fun y68 H69 =>
     S.c true (S.b (ldC y68 H69) fun y70 H71 =>
     S.b (up (binB Try.prog .sub 3 y5 (.int .i64 16)) H71) fun y72 H73 =>
     S.b (up (iAddrA 64 1 y4 y72) H73) fun y74 H75 =>
     S.c true (S.b (ldC y74 H75) fun y76 H77 =>
     S.b (C 35 [y64, (.int .i64 7)] H77) fun y78 H79 =>
     S.c (sameBlk H77 H79 (blkOf y74) && true) (S.b (C 35 [y64, (.int .i64 18)] H79) fun y80 H81 =>
      S.c (sameBlk H79 H81 (blkOf y74) && true) (S.b (up (binB Try.prog .xor 22 y78 y80) H81) fun y82 H83 =>
       S.b (up (binB Try.prog .shr 22 y64 (.int .u64 3)) H83) fun y84 H85 =>
       S.b (up (binB Try.prog .xor 22 y82 y84) H85) fun y86 H87 =>
       S.b (up (binB Try.prog .add 22 y76 y86) H87) fun y88 H89 =>
       S.b (up (binB Try.prog .sub 3 y5 (.int .i64 7)) H89) fun y90 H91 =>
       S.b (up (iAddrA 64 1 y4 y90) H91) fun y92 H93 =>
       S.c ((sameBlk H79 H81 (blkOf y92)) && ((sameBlk H77 H79 (blkOf y92)) && true)) (S.b (ldC y92 H93) fun y94 H95 =>
       S.b (up (binB Try.prog .add 22 y88 y94) H95) fun y96 H97 =>
       S.b (C 35 [y70, (.int .i64 17)] H97) fun y98 H99 =>
       S.c (sameBlk H97 H99 (blkOf y92) && (sameBlk H97 H99 (blkOf y74) && true)) (S.b (C 35 [y70, (.int .i64 19)] H99) fun y100 H101 =>
        S.c (sameBlk H99 H101 (blkOf y92) && (sameBlk H99 H101 (blkOf y74) && true)) (S.b (up (binB Try.prog .xor 22 y98 y100) H101) fun y102 H103 =>
         S.b (up (binB Try.prog .shr 22 y70 (.int .u64 10)) H103) fun y104 H105 =>
         S.b (up (binB Try.prog .xor 22 y102 y104) H105) fun y106 H107 =>
         S.b (up (binB Try.prog .add 22 y96 y106) H107) fun y108 H109 =>
         S.b (up (iAddrA 64 1 y4 y5) H109) fun y110 H111 =>
         S.b (stV 1 y110 y108 H111) fun _ H112 =>
         S.c true (f34_J1 S C n (f34_L0 S C n m) y3 y4 y5 H112)))))))))))
   (S.b (ldA 64 y4 H8) fun y113 H114 =>
    S.b (stV 64 y4 y113 H114) fun _ H115 =>
    (resM [(ldA 64 y4 H115).map (·.1)]).map fun l => (one l, H115))

noncomputable def f34_L0G (S : Seam (Value × Heap)) (C : CallF) (n : Nat) (R0 : Value→Value→Value→Heap→Option (Value × Heap)) (P1 : Env → Heap → Option (Value × Heap)) (env : Env) (H : Heap) : Option (Value × Heap) :=
 S.b (up (binB Try.prog .lss 3 (env 8) (.int .i64 64)) H) fun y116 H117 =>
 S.i y116
 (S.b (up (binB Try.prog .lss 3 (env 8) (.int .i64 16)) H117) fun y118 H119 =>
  S.i y118
  (S.b (up (binB Try.prog .mul 3 (.int .i64 4) (env 8)) H119) fun y120 H121 =>
   S.b (up (binB Try.prog .add 3 (env 8) (.int .i64 1)) H121) fun y122 H123 =>
   S.b (up (binB Try.prog .mul 3 (.int .i64 4) y122) H123) fun y124 H125 =>
   S.b (up (slcS 1 (env 0) (some y120) (some y124) none) H125) fun y126 H127 =>
   S.b (up (lenS y126) H127) fun y128 H129 =>
   P1 (putE 74 (putE 74 (putE 74 (putE 74 (putE 74 (putE 74 (putE 74 (putE 74 (putE 74 (putE 74 (putE 74 (putE 74 (putE 74 (putE 74 env (some 9) y116) (some 10) (env 8)) (some 3) (env 8)) (some 11) (env 8)) (some 12) y118) (some 13) (env 0)) (some 14) (env 8)) (some 15) y120) (some 16) (env 8)) (some 17) y122) (some 18) y124) (some 19) y126) (some 20) y128) (some 21) (.int .i64 0)) H129)
  (S.b (up (binB Try.prog .sub 3 (env 8) (.int .i64 15)) H119) fun y130 H131 =>
   S.b (up (iAddrA 64 1 (env 2) y130) H131) fun y132 H133 =>
   S.c true (S.b (ldC y132 H133) fun y134 H135 =>
   S.b (up (binB Try.prog .sub 3 (env 8) (.int .i64 2)) H135) fun y136 H137 =>
   S.b (up (iAddrA 64 1 (env 2) y136) H137) fun y138 H139 =>
   S.c true (S.b (ldC y138 H139) fun y140 H141 =>
   S.b (up (binB Try.prog .sub 3 (env 8) (.int .i64 16)) H141) fun y142 H143 =>
   S.b (up (iAddrA 64 1 (env 2) y142) H143) fun y144 H145 =>
   S.c true (S.b (ldC y144 H145) fun y146 H147 =>
   S.b (C 35 [y134, (.int .i64 7)] H147) fun y148 H149 =>
   S.c (sameBlk H147 H149 (blkOf y144) && true) (S.b (C 35 [y134, (.int .i64 18)] H149) fun y150 H151 =>
    S.c (sameBlk H149 H151 (blkOf y144) && true) (S.b (up (binB Try.prog .xor 22 y148 y150) H151) fun y152 H153 =>
     S.b (up (binB Try.prog .shr 22 y134 (.int .u64 3)) H153) fun y154 H155 =>
     S.b (up (binB Try.prog .xor 22 y152 y154) H155) fun y156 H157 =>
     S.b (up (binB Try.prog .add 22 y146 y156) H157) fun y158 H159 =>
     S.b (up (binB Try.prog .sub 3 (env 8) (.int .i64 7)) H159) fun y160 H161 =>
     S.b (up (iAddrA 64 1 (env 2) y160) H161) fun y162 H163 =>
     S.c ((sameBlk H149 H151 (blkOf y162)) && ((sameBlk H147 H149 (blkOf y162)) && true)) (S.b (ldC y162 H163) fun y164 H165 =>
     S.b (up (binB Try.prog .add 22 y158 y164) H165) fun y166 H167 =>
     S.b (C 35 [y140, (.int .i64 17)] H167) fun y168 H169 =>
     S.c (sameBlk H167 H169 (blkOf y162) && (sameBlk H167 H169 (blkOf y144) && true)) (S.b (C 35 [y140, (.int .i64 19)] H169) fun y170 H171 =>
      S.c (sameBlk H169 H171 (blkOf y162) && (sameBlk H169 H171 (blkOf y144) && true)) (S.b (up (binB Try.prog .xor 22 y168 y170) H171) fun y172 H173 =>
       S.b (up (binB Try.prog .shr 22 y140 (.int .u64 10)) H173) fun y174 H175 =>
       S.b (up (binB Try.prog .xor 22 y172 y174) H175) fun y176 H177 =>
       S.b (up (binB Try.prog .add 22 y166 y176) H177) fun y178 H179 =>
       S.b (up (iAddrA 64 1 (env 2) (env 8)) H179) fun y180 H181 =>
       S.b (stV 1 y180 y178 H181) fun u182 H183 =>
       S.c true (S.b (up (binB Try.prog .add 3 (env 8) (.int .i64 1)) H183) fun y184 H185 =>
        R0 (env 0) (env 2) y184 H185)))))))))))
 (S.b (ldA 64 (env 2) H117) fun y186 H187 =>
  S.b (stV 64 (env 2) y186 H187) fun u188 H189 =>
  (resM [(ldA 64 (env 2) H189).map (·.1)]).map fun l => (one l, H189))

theorem f34_L0_eq (S : Seam (Value × Heap)) (C : CallF) (n : Nat) : ∀ (m : Nat) (env : Env) (H : Heap), aloopK (acodeK S Try.prog C n 74 (cAt f34_c [1, 0, 1, 0, 0])) m env H (kAt S Try.prog C n 74 f34_c [1, 0, 1, 0] (fin Try.prog Try.f34)) = f34_L0 S C n m (env 0) (env 2) (env 8) H := by
  intro m env H
  refine aloopK_eq (L := fun m env H => f34_L0 S C n m (env 0) (env 2) (env 8) H) (fun env H => rfl) (fun m env H => ?_) m env H
  have h1 : acodeK S Try.prog C n 74 (cAt f34_c [1, 0, 1, 0, 0]) env H (onNormal (fun env' H' => f34_L0 S C n m (env' 0) (env' 2) (env' 8) H') (kAt S Try.prog C n 74 f34_c [1, 0, 1, 0] (fin Try.prog Try.f34))) = f34_L0G S C n (f34_L0 S C n m) (fun env H => aloopK (acodeK S Try.prog C n 74 (cAt f34_c [1, 0, 1, 0, 0, 1, 1, 0, 0, 1, 0, 1, 0, 0, 1, 0, 0])) n env H (kAt S Try.prog C n 74 (cAt f34_c [1, 0, 1, 0, 0]) [1, 1, 0, 0, 1, 0, 1, 0, 0, 1, 0] (onNormal (fun env' H' => (f34_L0 S C n m) (env' 0) (env' 2) (env' 8) H') (kAt S Try.prog C n 74 f34_c [1, 0, 1, 0] (fin Try.prog Try.f34))))) env H := by kernel_rfl
  have e0 : (fun env H => aloopK (acodeK S Try.prog C n 74 (cAt f34_c [1, 0, 1, 0, 0, 1, 1, 0, 0, 1, 0, 1, 0, 0, 1, 0, 0])) n env H (kAt S Try.prog C n 74 (cAt f34_c [1, 0, 1, 0, 0]) [1, 1, 0, 0, 1, 0, 1, 0, 0, 1, 0] (onNormal (fun env' H' => (f34_L0 S C n m) (env' 0) (env' 2) (env' 8) H') (kAt S Try.prog C n 74 f34_c [1, 0, 1, 0] (fin Try.prog Try.f34))))) = (fun env H => f34_L1 S C n (f34_L0 S C n m) n (env 0) (env 2) (env 3) (env 8) (env 19) (env 20) (env 21) H) := by funext env H; exact f34_L1_eq S C n (f34_L0 S C n m) n env H
  rw [e0] at h1
  exact h1.trans (by kernel_rfl)


noncomputable def f34 (S : Seam (Value × Heap)) (C : CallF) (n : Nat) (x0 : Value) (H : Heap) : Option (Value × Heap) :=
 S.b (newV (rep 64 [(.int .u32 0)]) H) fun y1 H2 =>
 f34_L0 S C n n x0 y1 (.int .i64 0) H2

noncomputable def f34G (S : Seam (Value × Heap)) (C : CallF) (n : Nat) (P0 : Env → Heap → Option (Value × Heap)) (x0 : Value) (H : Heap) : Option (Value × Heap) :=
 S.b (newV (rep 64 [(.int .u32 0)]) H) fun y190 H191 =>
 P0 (putE 74 (putE 74 (env0 [x0]) (some 2) y190) (some 8) (.int .i64 0)) H191

theorem f34_main (S : Seam (Value × Heap)) (C : CallF) (n : Nat) (x0 : Value) (H : Heap) : acodeK S Try.prog C n 74 f34_c (env0 [x0]) H (fin Try.prog Try.f34) = f34 S C n x0 H := by
  have h1 : acodeK S Try.prog C n 74 f34_c (env0 [x0]) H (fin Try.prog Try.f34) = f34G S C n (fun env H => aloopK (acodeK S Try.prog C n 74 (cAt f34_c [1, 0, 1, 0, 0])) n env H (kAt S Try.prog C n 74 f34_c [1, 0, 1, 0] (fin Try.prog Try.f34))) x0 H := by kernel_rfl
  have e0 : (fun env H => aloopK (acodeK S Try.prog C n 74 (cAt f34_c [1, 0, 1, 0, 0])) n env H (kAt S Try.prog C n 74 f34_c [1, 0, 1, 0] (fin Try.prog Try.f34))) = (fun env H => f34_L0 S C n n (env 0) (env 2) (env 8) H) := by funext env H; exact f34_L0_eq S C n n env H
  rw [e0] at h1
  exact h1.trans (by kernel_rfl)


theorem f34_eq {gl : Bool} {E : Ext} (hE : E 34 = none) (n : Nat) (x0 : Value) (H : Heap) : acall Try.prog gl E (n + 1) 34 [x0] H = f34 real (acall Try.prog gl E n) n x0 H :=
  (acall_eq (N := 74) Try.func34 (by kernel_rfl) (by kernel_rfl) hE (okgl f34_c (by kernel_rfl)) (by kernel_rfl)).trans (f34_main real _ n x0 H)

/-! incunable/sha.turn -/
noncomputable def f35_c : Code := (Try.f35.body).getD .skip

noncomputable def f35 (S : Seam (Value × Heap)) (C : CallF) (n : Nat) (x0 : Value) (x1 : Value) (H : Heap) : Option (Value × Heap) :=
 S.b (up (unB .neg x1) H) fun y1 H2 =>
 S.b (C 50 [x0, y1] H2) fun y3 H4 =>
 some (y3, H4)

theorem f35_main (S : Seam (Value × Heap)) (C : CallF) (n : Nat) (x0 : Value) (x1 : Value) (H : Heap) : acodeK S Try.prog C n 9 f35_c (env0 [x0, x1]) H (fin Try.prog Try.f35) = f35 S C n x0 x1 H := by
  kernel_rfl


theorem f35_eq {gl : Bool} {E : Ext} (hE : E 35 = none) (n : Nat) (x0 : Value) (x1 : Value) (H : Heap) : acall Try.prog gl E (n + 1) 35 [x0, x1] H = f35 real (acall Try.prog gl E n) n x0 x1 H :=
  (acall_eq (N := 9) Try.func35 (by kernel_rfl) (by kernel_rfl) hE (okgl f35_c (by kernel_rfl)) (by kernel_rfl)).trans (f35_main real _ n x0 x1 H)

/-! incunable/incunableref04.rounds -/
noncomputable def f36_c : Code := (Try.f36.body).getD .skip

noncomputable def f36_L1 (S : Seam (Value × Heap)) (C : CallF) (n : Nat) : Nat → Value → Value → Value → Value → Heap → Option (Value × Heap)
 | 0, _, _, _, _, _ => none
 | m + 1, y180, y181, y182, y183, H184 =>
   S.b (up (binB Try.prog .lss 3 y183 (.int .i64 8)) H184) fun y185 H186 =>
   S.i y185
   (S.b (up (iAddrA 8 1 y180 y183) H186) fun y187 H188 =>
    S.c true (S.b (ldC y187 H188) fun y189 H190 =>
    S.b (up (iAddrA 8 1 y182 y183) H190) fun y191 H192 =>
    S.c true (S.b (ldC y191 H192) fun y193 H194 =>
    S.b (up (binB Try.prog .add 22 y189 y193) H194) fun y195 H196 =>
    S.b (up (iAddrA 8 1 y180 y183) H196) fun y197 H198 =>
    S.b (stV 1 y197 y195 H198) fun _ H199 =>
    S.c true (S.b (up (binB Try.prog .add 3 y183 (.int .i64 1)) H199) fun y200 H201 =>
     f36_L1 S C n m y180 y181 y182 y200 H201))))
   (S.b (ldA 8 y180 H186) fun y202 H203 =>
    S.b (stV 8 y181 y202 H203) fun _ H204 =>
    (resM [(ldA 8 y181 H204).map (·.1)]).map fun l => (one l, H204))

theorem f36_L1_eq (S : Seam (Value × Heap)) (C : CallF) (n : Nat) : ∀ (m : Nat) (env : Env) (H : Heap), aloopK (acodeK S Try.prog C n 121 (cAt f36_c [1, 1, 1, 0, 1, 0, 0])) m env H (kAt S Try.prog C n 121 f36_c [1, 1, 1, 0, 1, 0] (fin Try.prog Try.f36)) = f36_L1 S C n m (env 3) (env 6) (env 7) (env 13) H := by
  intro m env H
  refine aloopK_eq (L := fun m env H => f36_L1 S C n m (env 3) (env 6) (env 7) (env 13) H) (fun env H => rfl) (fun m env H => ?_) m env H
  kernel_rfl


noncomputable def f36_L0 (S : Seam (Value × Heap)) (C : CallF) (n : Nat) : Nat → Value → Value → Value → Value → Value → Value → Heap → Option (Value × Heap)
 | 0, _, _, _, _, _, _, _ => none
 | m + 1, y10, y11, y12, y13, y14, y15, H16 =>
   S.b (up (binB Try.prog .lss 3 y15 (.int .i64 64)) H16) fun y17 H18 =>
   S.i y17
   (S.b (up (iAddrA 8 1 y14 (.int .i64 4)) H18) fun y19 H20 =>
    S.c true (S.b (ldC y19 H20) fun y21 H22 =>
    S.b (C 51 [y21, (.int .i64 6)] H22) fun y23 H24 =>
    S.c true (S.b (up (iAddrA 8 1 y14 (.int .i64 4)) H24) fun y25 H26 =>
     S.c ((sameBlk H22 H24 (blkOf y25)) && true) (S.b (ldC y25 H26) fun y27 H28 =>
     S.b (C 51 [y27, (.int .i64 11)] H28) fun y29 H30 =>
     S.c true (S.b (up (binB Try.prog .xor 22 y23 y29) H30) fun y31 H32 =>
      S.b (up (iAddrA 8 1 y14 (.int .i64 4)) H32) fun y33 H34 =>
      S.c ((sameBlk H28 H30 (blkOf y33)) && ((sameBlk H22 H24 (blkOf y33)) && true)) (S.b (ldC y33 H34) fun y35 H36 =>
      S.b (C 51 [y35, (.int .i64 25)] H36) fun y37 H38 =>
      S.c true (S.b (up (binB Try.prog .xor 22 y31 y37) H38) fun y39 H40 =>
       S.b (up (iAddrA 8 1 y14 (.int .i64 7)) H40) fun y41 H42 =>
       S.c true (S.b (ldC y41 H42) fun y43 H44 =>
       S.b (up (binB Try.prog .add 22 y43 y39) H44) fun y45 H46 =>
       S.b (up (iAddrA 8 1 y14 (.int .i64 4)) H46) fun y47 H48 =>
       S.c true (S.b (ldC y47 H48) fun y49 H50 =>
       S.b (up (iAddrA 8 1 y14 (.int .i64 5)) H50) fun y51 H52 =>
       S.c true (S.b (ldC y51 H52) fun y53 H54 =>
       S.b (up (binB Try.prog .and 22 y49 y53) H54) fun y55 H56 =>
       S.b (up (iAddrA 8 1 y14 (.int .i64 4)) H56) fun y57 H58 =>
       S.c true (S.b (ldC y57 H58) fun y59 H60 =>
       S.b (up (unB .xor y59) H60) fun y61 H62 =>
       S.b (up (iAddrA 8 1 y14 (.int .i64 6)) H62) fun y63 H64 =>
       S.c true (S.b (ldC y63 H64) fun y65 H66 =>
       S.b (up (binB Try.prog .and 22 y61 y65) H66) fun y67 H68 =>
       S.b (up (binB Try.prog .xor 22 y55 y67) H68) fun y69 H70 =>
       S.b (up (binB Try.prog .add 22 y45 y69) H70) fun y71 H72 =>
       S.b (up (iAddrS 1 y11 y15) H72) fun y73 H74 =>
       S.c true (S.b (ldC y73 H74) fun y75 H76 =>
       S.b (up (binB Try.prog .add 22 y71 y75) H76) fun y77 H78 =>
       S.b (up (iAddrS 1 y10 y15) H78) fun y79 H80 =>
       S.c true (S.b (ldC y79 H80) fun y81 H82 =>
       S.b (up (binB Try.prog .add 22 y77 y81) H82) fun y83 H84 =>
       S.b (up (iAddrA 8 1 y14 (.int .i64 0)) H84) fun y85 H86 =>
       S.c true (S.b (ldC y85 H86) fun y87 H88 =>
       S.b (C 51 [y87, (.int .i64 2)] H88) fun y89 H90 =>
       S.c true (S.b (up (iAddrA 8 1 y14 (.int .i64 0)) H90) fun y91 H92 =>
        S.c ((sameBlk H88 H90 (blkOf y91)) && true) (S.b (ldC y91 H92) fun y93 H94 =>
        S.b (C 51 [y93, (.int .i64 13)] H94) fun y95 H96 =>
        S.c true (S.b (up (binB Try.prog .xor 22 y89 y95) H96) fun y97 H98 =>
         S.b (up (iAddrA 8 1 y14 (.int .i64 0)) H98) fun y99 H100 =>
         S.c ((sameBlk H94 H96 (blkOf y99)) && ((sameBlk H88 H90 (blkOf y99)) && true)) (S.b (ldC y99 H100) fun y101 H102 =>
         S.b (C 51 [y101, (.int .i64 22)] H102) fun y103 H104 =>
         S.c true (S.b (up (binB Try.prog .xor 22 y97 y103) H104) fun y105 H106 =>
          S.b (up (iAddrA 8 1 y14 (.int .i64 0)) H106) fun y107 H108 =>
          S.b (ldC y107 H108) fun y109 H110 =>
          S.b (up (iAddrA 8 1 y14 (.int .i64 1)) H110) fun y111 H112 =>
          S.b (ldC y111 H112) fun y113 H114 =>
          S.b (up (binB Try.prog .and 22 y109 y113) H114) fun y115 H116 =>
          S.b (up (iAddrA 8 1 y14 (.int .i64 0)) H116) fun y117 H118 =>
          S.b (ldC y117 H118) fun y119 H120 =>
          S.b (up (iAddrA 8 1 y14 (.int .i64 2)) H120) fun y121 H122 =>
          S.b (ldC y121 H122) fun y123 H124 =>
          S.b (up (binB Try.prog .and 22 y119 y123) H124) fun y125 H126 =>
          S.b (up (binB Try.prog .xor 22 y115 y125) H126) fun y127 H128 =>
          S.b (up (iAddrA 8 1 y14 (.int .i64 1)) H128) fun y129 H130 =>
          S.b (ldC y129 H130) fun y131 H132 =>
          S.b (up (iAddrA 8 1 y14 (.int .i64 2)) H132) fun y133 H134 =>
          S.b (ldC y133 H134) fun y135 H136 =>
          S.b (up (binB Try.prog .and 22 y131 y135) H136) fun y137 H138 =>
          S.b (up (binB Try.prog .xor 22 y127 y137) H138) fun y139 H140 =>
          S.b (up (binB Try.prog .add 22 y105 y139) H140) fun y141 H142 =>
          S.b (up (binB Try.prog .add 22 y83 y141) H142) fun y143 H144 =>
          S.b (up (iAddrA 8 1 y14 (.int .i64 0)) H144) fun y145 H146 =>
          S.b (ldC y145 H146) fun y147 H148 =>
          S.b (up (iAddrA 8 1 y14 (.int .i64 1)) H148) fun y149 H150 =>
          S.b (ldC y149 H150) fun y151 H152 =>
          S.b (up (iAddrA 8 1 y14 (.int .i64 2)) H152) fun y153 H154 =>
          S.b (ldC y153 H154) fun y155 H156 =>
          S.b (up (iAddrA 8 1 y14 (.int .i64 3)) H156) fun y157 H158 =>
          S.b (ldC y157 H158) fun y159 H160 =>
          S.b (up (binB Try.prog .add 22 y159 y83) H160) fun y161 H162 =>
          S.b (up (iAddrA 8 1 y14 (.int .i64 4)) H162) fun y163 H164 =>
          S.b (ldC y163 H164) fun y165 H166 =>
          S.b (up (iAddrA 8 1 y14 (.int .i64 5)) H166) fun y167 H168 =>
          S.b (ldC y167 H168) fun y169 H170 =>
          S.b (up (iAddrA 8 1 y14 (.int .i64 6)) H170) fun y171 H172 =>
          S.b (ldC y171 H172) fun y173 H174 =>
          S.b (bld [(.int .u32 0), (.int .u32 0), (.int .u32 0), (.int .u32 0), (.int .u32 0), (.int .u32 0), (.int .u32 0), (.int .u32 0)] [(0, 1, y143), (1, 1, y147), (2, 1, y151), (3, 1, y155), (4, 1, y161), (5, 1, y165), (6, 1, y169), (7, 1, y173)] H174) fun y175 H176 =>
          S.b (stV 8 y14 y175 H176) fun _ H177 =>
          S.b (up (binB Try.prog .add 3 y15 (.int .i64 1)) H177) fun y178 H179 =>
          f36_L0 S C n m y10 y11 y12 y13 y14 y178 H179))))))))))))))))))))
   (f36_L1 S C n n y12 y13 y14 (.int .i64 0) H18)

noncomputable def f36_L0G (S : Seam (Value × Heap)) (C : CallF) (n : Nat) (R0 : Value→Value→Value→Value→Value→Value→Heap→Option (Value × Heap)) (P1 : Env → Heap → Option (Value × Heap)) (env : Env) (H : Heap) : Option (Value × Heap) :=
 S.b (up (binB Try.prog .lss 3 (env 8) (.int .i64 64)) H) fun y205 H206 =>
 S.i y205
 (S.b (up (iAddrA 8 1 (env 7) (.int .i64 4)) H206) fun y207 H208 =>
  S.c true (S.b (ldC y207 H208) fun y209 H210 =>
  S.b (C 51 [y209, (.int .i64 6)] H210) fun y211 H212 =>
  S.c true (S.b (up (iAddrA 8 1 (env 7) (.int .i64 4)) H212) fun y213 H214 =>
   S.c ((sameBlk H210 H212 (blkOf y213)) && true) (S.b (ldC y213 H214) fun y215 H216 =>
   S.b (C 51 [y215, (.int .i64 11)] H216) fun y217 H218 =>
   S.c true (S.b (up (binB Try.prog .xor 22 y211 y217) H218) fun y219 H220 =>
    S.b (up (iAddrA 8 1 (env 7) (.int .i64 4)) H220) fun y221 H222 =>
    S.c ((sameBlk H216 H218 (blkOf y221)) && ((sameBlk H210 H212 (blkOf y221)) && true)) (S.b (ldC y221 H222) fun y223 H224 =>
    S.b (C 51 [y223, (.int .i64 25)] H224) fun y225 H226 =>
    S.c true (S.b (up (binB Try.prog .xor 22 y219 y225) H226) fun y227 H228 =>
     S.b (up (iAddrA 8 1 (env 7) (.int .i64 7)) H228) fun y229 H230 =>
     S.c true (S.b (ldC y229 H230) fun y231 H232 =>
     S.b (up (binB Try.prog .add 22 y231 y227) H232) fun y233 H234 =>
     S.b (up (iAddrA 8 1 (env 7) (.int .i64 4)) H234) fun y235 H236 =>
     S.c true (S.b (ldC y235 H236) fun y237 H238 =>
     S.b (up (iAddrA 8 1 (env 7) (.int .i64 5)) H238) fun y239 H240 =>
     S.c true (S.b (ldC y239 H240) fun y241 H242 =>
     S.b (up (binB Try.prog .and 22 y237 y241) H242) fun y243 H244 =>
     S.b (up (iAddrA 8 1 (env 7) (.int .i64 4)) H244) fun y245 H246 =>
     S.c true (S.b (ldC y245 H246) fun y247 H248 =>
     S.b (up (unB .xor y247) H248) fun y249 H250 =>
     S.b (up (iAddrA 8 1 (env 7) (.int .i64 6)) H250) fun y251 H252 =>
     S.c true (S.b (ldC y251 H252) fun y253 H254 =>
     S.b (up (binB Try.prog .and 22 y249 y253) H254) fun y255 H256 =>
     S.b (up (binB Try.prog .xor 22 y243 y255) H256) fun y257 H258 =>
     S.b (up (binB Try.prog .add 22 y233 y257) H258) fun y259 H260 =>
     S.b (up (iAddrS 1 (env 2) (env 8)) H260) fun y261 H262 =>
     S.c true (S.b (ldC y261 H262) fun y263 H264 =>
     S.b (up (binB Try.prog .add 22 y259 y263) H264) fun y265 H266 =>
     S.b (up (iAddrS 1 (env 1) (env 8)) H266) fun y267 H268 =>
     S.c true (S.b (ldC y267 H268) fun y269 H270 =>
     S.b (up (binB Try.prog .add 22 y265 y269) H270) fun y271 H272 =>
     S.b (up (iAddrA 8 1 (env 7) (.int .i64 0)) H272) fun y273 H274 =>
     S.c true (S.b (ldC y273 H274) fun y275 H276 =>
     S.b (C 51 [y275, (.int .i64 2)] H276) fun y277 H278 =>
     S.c true (S.b (up (iAddrA 8 1 (env 7) (.int .i64 0)) H278) fun y279 H280 =>
      S.c ((sameBlk H276 H278 (blkOf y279)) && true) (S.b (ldC y279 H280) fun y281 H282 =>
      S.b (C 51 [y281, (.int .i64 13)] H282) fun y283 H284 =>
      S.c true (S.b (up (binB Try.prog .xor 22 y277 y283) H284) fun y285 H286 =>
       S.b (up (iAddrA 8 1 (env 7) (.int .i64 0)) H286) fun y287 H288 =>
       S.c ((sameBlk H282 H284 (blkOf y287)) && ((sameBlk H276 H278 (blkOf y287)) && true)) (S.b (ldC y287 H288) fun y289 H290 =>
       S.b (C 51 [y289, (.int .i64 22)] H290) fun y291 H292 =>
       S.c true (S.b (up (binB Try.prog .xor 22 y285 y291) H292) fun y293 H294 =>
        S.b (up (iAddrA 8 1 (env 7) (.int .i64 0)) H294) fun y295 H296 =>
        S.b (ldC y295 H296) fun y297 H298 =>
        S.b (up (iAddrA 8 1 (env 7) (.int .i64 1)) H298) fun y299 H300 =>
        S.b (ldC y299 H300) fun y301 H302 =>
        S.b (up (binB Try.prog .and 22 y297 y301) H302) fun y303 H304 =>
        S.b (up (iAddrA 8 1 (env 7) (.int .i64 0)) H304) fun y305 H306 =>
        S.b (ldC y305 H306) fun y307 H308 =>
        S.b (up (iAddrA 8 1 (env 7) (.int .i64 2)) H308) fun y309 H310 =>
        S.b (ldC y309 H310) fun y311 H312 =>
        S.b (up (binB Try.prog .and 22 y307 y311) H312) fun y313 H314 =>
        S.b (up (binB Try.prog .xor 22 y303 y313) H314) fun y315 H316 =>
        S.b (up (iAddrA 8 1 (env 7) (.int .i64 1)) H316) fun y317 H318 =>
        S.b (ldC y317 H318) fun y319 H320 =>
        S.b (up (iAddrA 8 1 (env 7) (.int .i64 2)) H320) fun y321 H322 =>
        S.b (ldC y321 H322) fun y323 H324 =>
        S.b (up (binB Try.prog .and 22 y319 y323) H324) fun y325 H326 =>
        S.b (up (binB Try.prog .xor 22 y315 y325) H326) fun y327 H328 =>
        S.b (up (binB Try.prog .add 22 y293 y327) H328) fun y329 H330 =>
        S.b (up (binB Try.prog .add 22 y271 y329) H330) fun y331 H332 =>
        S.b (up (iAddrA 8 1 (env 7) (.int .i64 0)) H332) fun y333 H334 =>
        S.b (ldC y333 H334) fun y335 H336 =>
        S.b (up (iAddrA 8 1 (env 7) (.int .i64 1)) H336) fun y337 H338 =>
        S.b (ldC y337 H338) fun y339 H340 =>
        S.b (up (iAddrA 8 1 (env 7) (.int .i64 2)) H340) fun y341 H342 =>
        S.b (ldC y341 H342) fun y343 H344 =>
        S.b (up (iAddrA 8 1 (env 7) (.int .i64 3)) H344) fun y345 H346 =>
        S.b (ldC y345 H346) fun y347 H348 =>
        S.b (up (binB Try.prog .add 22 y347 y271) H348) fun y349 H350 =>
        S.b (up (iAddrA 8 1 (env 7) (.int .i64 4)) H350) fun y351 H352 =>
        S.b (ldC y351 H352) fun y353 H354 =>
        S.b (up (iAddrA 8 1 (env 7) (.int .i64 5)) H354) fun y355 H356 =>
        S.b (ldC y355 H356) fun y357 H358 =>
        S.b (up (iAddrA 8 1 (env 7) (.int .i64 6)) H358) fun y359 H360 =>
        S.b (ldC y359 H360) fun y361 H362 =>
        S.b (bld [(.int .u32 0), (.int .u32 0), (.int .u32 0), (.int .u32 0), (.int .u32 0), (.int .u32 0), (.int .u32 0), (.int .u32 0)] [(0, 1, y331), (1, 1, y335), (2, 1, y339), (3, 1, y343), (4, 1, y349), (5, 1, y353), (6, 1, y357), (7, 1, y361)] H362) fun y363 H364 =>
        S.b (stV 8 (env 7) y363 H364) fun u365 H366 =>
        S.b (up (binB Try.prog .add 3 (env 8) (.int .i64 1)) H366) fun y367 H368 =>
        R0 (env 1) (env 2) (env 3) (env 6) (env 7) y367 H368))))))))))))))))))))
 (P1 (putE 121 (putE 121 (putE 121 env (some 15) (env 8)) (some 16) y205) (some 13) (.int .i64 0)) H206)

theorem f36_L0_eq (S : Seam (Value × Heap)) (C : CallF) (n : Nat) : ∀ (m : Nat) (env : Env) (H : Heap), aloopK (acodeK S Try.prog C n 121 (cAt f36_c [1, 1, 0, 1, 0, 0])) m env H (kAt S Try.prog C n 121 f36_c [1, 1, 0, 1, 0] (fin Try.prog Try.f36)) = f36_L0 S C n m (env 1) (env 2) (env 3) (env 6) (env 7) (env 8) H := by
  intro m env H
  refine aloopK_eq (L := fun m env H => f36_L0 S C n m (env 1) (env 2) (env 3) (env 6) (env 7) (env 8) H) (fun env H => rfl) (fun m env H => ?_) m env H
  have h1 : acodeK S Try.prog C n 121 (cAt f36_c [1, 1, 0, 1, 0, 0]) env H (onNormal (fun env' H' => f36_L0 S C n m (env' 1) (env' 2) (env' 3) (env' 6) (env' 7) (env' 8) H') (kAt S Try.prog C n 121 f36_c [1, 1, 0, 1, 0] (fin Try.prog Try.f36))) = f36_L0G S C n (f36_L0 S C n m) (fun env H => aloopK (acodeK S Try.prog C n 121 (cAt f36_c [1, 1, 1, 0, 1, 0, 0])) n env H (kAt S Try.prog C n 121 f36_c [1, 1, 1, 0, 1, 0] (fin Try.prog Try.f36))) env H := by kernel_rfl
  have e0 : (fun env H => aloopK (acodeK S Try.prog C n 121 (cAt f36_c [1, 1, 1, 0, 1, 0, 0])) n env H (kAt S Try.prog C n 121 f36_c [1, 1, 1, 0, 1, 0] (fin Try.prog Try.f36))) = (fun env H => f36_L1 S C n n (env 3) (env 6) (env 7) (env 13) H) := by funext env H; exact f36_L1_eq S C n n env H
  rw [e0] at h1
  exact h1.trans (by kernel_rfl)


noncomputable def f36 (S : Seam (Value × Heap)) (C : CallF) (n : Nat) (x0 : Value) (x1 : Value) (x2 : Value) (H : Heap) : Option (Value × Heap) :=
 S.b (newV (Value.cells x0).toList H) fun y1 H2 =>
 S.b (newV [(.int .u32 0), (.int .u32 0), (.int .u32 0), (.int .u32 0), (.int .u32 0), (.int .u32 0), (.int .u32 0), (.int .u32 0)] H2) fun y3 H4 =>
 S.b (ldA 8 y1 H4) fun y5 H6 =>
 S.b (newV [(.int .u32 0), (.int .u32 0), (.int .u32 0), (.int .u32 0), (.int .u32 0), (.int .u32 0), (.int .u32 0), (.int .u32 0)] H6) fun y7 H8 =>
 S.b (stV 8 y7 y5 H8) fun _ H9 =>
 f36_L0 S C n n x1 x2 y1 y3 y7 (.int .i64 0) H9

noncomputable def f36G (S : Seam (Value × Heap)) (C : CallF) (n : Nat) (P0 : Env → Heap → Option (Value × Heap)) (x0 : Value) (x1 : Value) (x2 : Value) (H : Heap) : Option (Value × Heap) :=
 S.b (newV (Value.cells x0).toList H) fun y369 H370 =>
 S.b (newV [(.int .u32 0), (.int .u32 0), (.int .u32 0), (.int .u32 0), (.int .u32 0), (.int .u32 0), (.int .u32 0), (.int .u32 0)] H370) fun y371 H372 =>
 S.b (ldA 8 y369 H372) fun y373 H374 =>
 S.b (newV [(.int .u32 0), (.int .u32 0), (.int .u32 0), (.int .u32 0), (.int .u32 0), (.int .u32 0), (.int .u32 0), (.int .u32 0)] H374) fun y375 H376 =>
 S.b (stV 8 y375 y373 H376) fun u377 H378 =>
 P0 (putE 121 (putE 121 (putE 121 (putE 121 (putE 121 (putE 121 (env0 [x0, x1, x2]) (some 3) y369) (some 6) y371) (some 14) y373) (some 7) y375) none u377) (some 8) (.int .i64 0)) H378

theorem f36_main (S : Seam (Value × Heap)) (C : CallF) (n : Nat) (x0 : Value) (x1 : Value) (x2 : Value) (H : Heap) : acodeK S Try.prog C n 121 f36_c (env0 [x0, x1, x2]) H (fin Try.prog Try.f36) = f36 S C n x0 x1 x2 H := by
  have h1 : acodeK S Try.prog C n 121 f36_c (env0 [x0, x1, x2]) H (fin Try.prog Try.f36) = f36G S C n (fun env H => aloopK (acodeK S Try.prog C n 121 (cAt f36_c [1, 1, 0, 1, 0, 0])) n env H (kAt S Try.prog C n 121 f36_c [1, 1, 0, 1, 0] (fin Try.prog Try.f36))) x0 x1 x2 H := by kernel_rfl
  have e0 : (fun env H => aloopK (acodeK S Try.prog C n 121 (cAt f36_c [1, 1, 0, 1, 0, 0])) n env H (kAt S Try.prog C n 121 f36_c [1, 1, 0, 1, 0] (fin Try.prog Try.f36))) = (fun env H => f36_L0 S C n n (env 1) (env 2) (env 3) (env 6) (env 7) (env 8) H) := by funext env H; exact f36_L0_eq S C n n env H
  rw [e0] at h1
  exact h1.trans (by kernel_rfl)


theorem f36_eq {gl : Bool} {E : Ext} (hE : E 36 = none) (n : Nat) (x0 : Value) (x1 : Value) (x2 : Value) (H : Heap) : acall Try.prog gl E (n + 1) 36 [x0, x1, x2] H = f36 real (acall Try.prog gl E n) n x0 x1 x2 H :=
  (acall_eq (N := 121) Try.func36 (by kernel_rfl) (by kernel_rfl) hE (okgl f36_c (by kernel_rfl)) (by kernel_rfl)).trans (f36_main real _ n x0 x1 x2 H)

/-! incunable/incunableref04.words -/
noncomputable def f37_c : Code := (Try.f37.body).getD .skip

noncomputable def f37_L1 (S : Seam (Value × Heap)) (C : CallF) (n : Nat) : Nat → Value → Value → Heap → Option (Value × Heap)
 | 0, _, _, _ => none
 | m + 1, y63, y64, H65 =>
   S.b (up (binB Try.prog .lss 3 y64 (.int .i64 64)) H65) fun y66 H67 =>
   S.i y66
   (S.b (up (binB Try.prog .sub 3 y64 (.int .i64 15)) H67) fun y68 H69 =>
    S.b (up (iAddrS 1 y63 y68) H69) fun y70 H71 =>
    S.c true (S.b (ldC y70 H71) fun y72 H73 =>
    S.b (up (binB Try.prog .sub 3 y64 (.int .i64 2)) H73) fun y74 H75 =>
    S.b (up (iAddrS 1 y63 y74) H75) fun y76 H77 =>
    S.c true (S.b (ldC y76 H77) fun y78 H79 =>
    S.b (C 51 [y72, (.int .i64 7)] H79) fun y80 H81 =>
    S.b (C 51 [y72, (.int .i64 18)] H81) fun y82 H83 =>
    S.b (up (binB Try.prog .xor 22 y80 y82) H83) fun y84 H85 =>
    S.b (up (binB Try.prog .shr 22 y72 (.int .u64 3)) H85) fun y86 H87 =>
    S.b (up (binB Try.prog .xor 22 y84 y86) H87) fun y88 H89 =>
    S.b (C 51 [y78, (.int .i64 17)] H89) fun y90 H91 =>
    S.b (C 51 [y78, (.int .i64 19)] H91) fun y92 H93 =>
    S.b (up (binB Try.prog .xor 22 y90 y92) H93) fun y94 H95 =>
    S.b (up (binB Try.prog .shr 22 y78 (.int .u64 10)) H95) fun y96 H97 =>
    S.b (up (binB Try.prog .xor 22 y94 y96) H97) fun y98 H99 =>
    S.b (up (binB Try.prog .sub 3 y64 (.int .i64 16)) H99) fun y100 H101 =>
    S.b (up (iAddrS 1 y63 y100) H101) fun y102 H103 =>
    S.c true (S.b (ldC y102 H103) fun y104 H105 =>
    S.b (up (binB Try.prog .add 22 y104 y88) H105) fun y106 H107 =>
    S.b (up (binB Try.prog .sub 3 y64 (.int .i64 7)) H107) fun y108 H109 =>
    S.b (up (iAddrS 1 y63 y108) H109) fun y110 H111 =>
    S.c true (S.b (ldC y110 H111) fun y112 H113 =>
    S.b (up (binB Try.prog .add 22 y106 y112) H113) fun y114 H115 =>
    S.b (up (binB Try.prog .add 22 y114 y98) H115) fun y116 H117 =>
    S.b (bldS 1 1 [(.int .u32 0)] [(0, 1, y116)] H117) fun y118 H119 =>
    S.b (app 1 4 y63 y118 H119) fun y120 H121 =>
    S.c true (S.b (up (binB Try.prog .add 3 y64 (.int .i64 1)) H121) fun y122 H123 =>
     f37_L1 S C n m y120 y122 H123))))))
   (some (y63, H67))

theorem f37_L1_eq (S : Seam (Value × Heap)) (C : CallF) (n : Nat) : ∀ (m : Nat) (env : Env) (H : Heap), aloopK (acodeK S Try.prog C n 99 (cAt f37_c [1, 1, 1, 0, 1, 0, 0])) m env H (kAt S Try.prog C n 99 f37_c [1, 1, 1, 0, 1, 0] (fin Try.prog Try.f37)) = f37_L1 S C n m (env 3) (env 5) H := by
  intro m env H
  refine aloopK_eq (L := fun m env H => f37_L1 S C n m (env 3) (env 5) H) (fun env H => rfl) (fun m env H => ?_) m env H
  kernel_rfl


noncomputable def f37_L0 (S : Seam (Value × Heap)) (C : CallF) (n : Nat) : Nat → Value → Value → Value → Heap → Option (Value × Heap)
 | 0, _, _, _, _ => none
 | m + 1, y1, y2, y3, H4 =>
   S.b (up (binB Try.prog .lss 3 y3 (.int .i64 16)) H4) fun y5 H6 =>
   S.i y5
   (S.b (up (binB Try.prog .mul 3 (.int .i64 4) y3) H6) fun y7 H8 =>
    S.b (up (iAddrS 1 y1 y7) H8) fun y9 H10 =>
    S.c true (S.b (ldC y9 H10) fun y11 H12 =>
    S.b (cvI .u32 y11 H12) fun y13 H14 =>
    S.b (up (binB Try.prog .shl 22 y13 (.int .u64 24)) H14) fun y15 H16 =>
    S.b (up (binB Try.prog .mul 3 (.int .i64 4) y3) H16) fun y17 H18 =>
    S.b (up (binB Try.prog .add 3 y17 (.int .i64 1)) H18) fun y19 H20 =>
    S.b (up (iAddrS 1 y1 y19) H20) fun y21 H22 =>
    S.c true (S.b (ldC y21 H22) fun y23 H24 =>
    S.b (cvI .u32 y23 H24) fun y25 H26 =>
    S.b (up (binB Try.prog .shl 22 y25 (.int .u64 16)) H26) fun y27 H28 =>
    S.b (up (binB Try.prog .or 22 y15 y27) H28) fun y29 H30 =>
    S.b (up (binB Try.prog .mul 3 (.int .i64 4) y3) H30) fun y31 H32 =>
    S.b (up (binB Try.prog .add 3 y31 (.int .i64 2)) H32) fun y33 H34 =>
    S.b (up (iAddrS 1 y1 y33) H34) fun y35 H36 =>
    S.c true (S.b (ldC y35 H36) fun y37 H38 =>
    S.b (cvI .u32 y37 H38) fun y39 H40 =>
    S.b (up (binB Try.prog .shl 22 y39 (.int .u64 8)) H40) fun y41 H42 =>
    S.b (up (binB Try.prog .or 22 y29 y41) H42) fun y43 H44 =>
    S.b (up (binB Try.prog .mul 3 (.int .i64 4) y3) H44) fun y45 H46 =>
    S.b (up (binB Try.prog .add 3 y45 (.int .i64 3)) H46) fun y47 H48 =>
    S.b (up (iAddrS 1 y1 y47) H48) fun y49 H50 =>
    S.c true (S.b (ldC y49 H50) fun y51 H52 =>
    S.b (cvI .u32 y51 H52) fun y53 H54 =>
    S.b (up (binB Try.prog .or 22 y43 y53) H54) fun y55 H56 =>
    S.b (bldS 1 1 [(.int .u32 0)] [(0, 1, y55)] H56) fun y57 H58 =>
    S.b (app 1 4 y2 y57 H58) fun y59 H60 =>
    S.c true (S.b (up (binB Try.prog .add 3 y3 (.int .i64 1)) H60) fun y61 H62 =>
     f37_L0 S C n m y1 y59 y61 H62))))))
   (f37_L1 S C n n y2 (.int .i64 16) H6)

noncomputable def f37_L0G (S : Seam (Value × Heap)) (C : CallF) (n : Nat) (R0 : Value→Value→Value→Heap→Option (Value × Heap)) (P1 : Env → Heap → Option (Value × Heap)) (env : Env) (H : Heap) : Option (Value × Heap) :=
 S.b (up (binB Try.prog .lss 3 (env 4) (.int .i64 16)) H) fun y124 H125 =>
 S.i y124
 (S.b (up (binB Try.prog .mul 3 (.int .i64 4) (env 4)) H125) fun y126 H127 =>
  S.b (up (iAddrS 1 (env 0) y126) H127) fun y128 H129 =>
  S.c true (S.b (ldC y128 H129) fun y130 H131 =>
  S.b (cvI .u32 y130 H131) fun y132 H133 =>
  S.b (up (binB Try.prog .shl 22 y132 (.int .u64 24)) H133) fun y134 H135 =>
  S.b (up (binB Try.prog .mul 3 (.int .i64 4) (env 4)) H135) fun y136 H137 =>
  S.b (up (binB Try.prog .add 3 y136 (.int .i64 1)) H137) fun y138 H139 =>
  S.b (up (iAddrS 1 (env 0) y138) H139) fun y140 H141 =>
  S.c true (S.b (ldC y140 H141) fun y142 H143 =>
  S.b (cvI .u32 y142 H143) fun y144 H145 =>
  S.b (up (binB Try.prog .shl 22 y144 (.int .u64 16)) H145) fun y146 H147 =>
  S.b (up (binB Try.prog .or 22 y134 y146) H147) fun y148 H149 =>
  S.b (up (binB Try.prog .mul 3 (.int .i64 4) (env 4)) H149) fun y150 H151 =>
  S.b (up (binB Try.prog .add 3 y150 (.int .i64 2)) H151) fun y152 H153 =>
  S.b (up (iAddrS 1 (env 0) y152) H153) fun y154 H155 =>
  S.c true (S.b (ldC y154 H155) fun y156 H157 =>
  S.b (cvI .u32 y156 H157) fun y158 H159 =>
  S.b (up (binB Try.prog .shl 22 y158 (.int .u64 8)) H159) fun y160 H161 =>
  S.b (up (binB Try.prog .or 22 y148 y160) H161) fun y162 H163 =>
  S.b (up (binB Try.prog .mul 3 (.int .i64 4) (env 4)) H163) fun y164 H165 =>
  S.b (up (binB Try.prog .add 3 y164 (.int .i64 3)) H165) fun y166 H167 =>
  S.b (up (iAddrS 1 (env 0) y166) H167) fun y168 H169 =>
  S.c true (S.b (ldC y168 H169) fun y170 H171 =>
  S.b (cvI .u32 y170 H171) fun y172 H173 =>
  S.b (up (binB Try.prog .or 22 y162 y172) H173) fun y174 H175 =>
  S.b (bldS 1 1 [(.int .u32 0)] [(0, 1, y174)] H175) fun y176 H177 =>
  S.b (app 1 4 (env 3) y176 H177) fun y178 H179 =>
  S.c true (S.b (up (binB Try.prog .add 3 (env 4) (.int .i64 1)) H179) fun y180 H181 =>
   R0 (env 0) y178 y180 H181))))))
 (P1 (putE 99 (putE 99 (putE 99 env (some 10) (env 4)) (some 11) y124) (some 5) (.int .i64 16)) H125)

theorem f37_L0_eq (S : Seam (Value × Heap)) (C : CallF) (n : Nat) : ∀ (m : Nat) (env : Env) (H : Heap), aloopK (acodeK S Try.prog C n 99 (cAt f37_c [1, 1, 0, 1, 0, 0])) m env H (kAt S Try.prog C n 99 f37_c [1, 1, 0, 1, 0] (fin Try.prog Try.f37)) = f37_L0 S C n m (env 0) (env 3) (env 4) H := by
  intro m env H
  refine aloopK_eq (L := fun m env H => f37_L0 S C n m (env 0) (env 3) (env 4) H) (fun env H => rfl) (fun m env H => ?_) m env H
  have h1 : acodeK S Try.prog C n 99 (cAt f37_c [1, 1, 0, 1, 0, 0]) env H (onNormal (fun env' H' => f37_L0 S C n m (env' 0) (env' 3) (env' 4) H') (kAt S Try.prog C n 99 f37_c [1, 1, 0, 1, 0] (fin Try.prog Try.f37))) = f37_L0G S C n (f37_L0 S C n m) (fun env H => aloopK (acodeK S Try.prog C n 99 (cAt f37_c [1, 1, 1, 0, 1, 0, 0])) n env H (kAt S Try.prog C n 99 f37_c [1, 1, 1, 0, 1, 0] (fin Try.prog Try.f37))) env H := by kernel_rfl
  have e0 : (fun env H => aloopK (acodeK S Try.prog C n 99 (cAt f37_c [1, 1, 1, 0, 1, 0, 0])) n env H (kAt S Try.prog C n 99 f37_c [1, 1, 1, 0, 1, 0] (fin Try.prog Try.f37))) = (fun env H => f37_L1 S C n n (env 3) (env 5) H) := by funext env H; exact f37_L1_eq S C n n env H
  rw [e0] at h1
  exact h1.trans (by kernel_rfl)


noncomputable def f37 (S : Seam (Value × Heap)) (C : CallF) (n : Nat) (x0 : Value) (H : Heap) : Option (Value × Heap) :=
 f37_L0 S C n n x0 (.slice none 0 0) (.int .i64 0) H

noncomputable def f37G (S : Seam (Value × Heap)) (C : CallF) (n : Nat) (P0 : Env → Heap → Option (Value × Heap)) (x0 : Value) (H : Heap) : Option (Value × Heap) :=
 P0 (putE 99 (putE 99 (putE 99 (env0 [x0]) (some 2) (.slice none 0 0)) (some 3) (.slice none 0 0)) (some 4) (.int .i64 0)) H

theorem f37_main (S : Seam (Value × Heap)) (C : CallF) (n : Nat) (x0 : Value) (H : Heap) : acodeK S Try.prog C n 99 f37_c (env0 [x0]) H (fin Try.prog Try.f37) = f37 S C n x0 H := by
  have h1 : acodeK S Try.prog C n 99 f37_c (env0 [x0]) H (fin Try.prog Try.f37) = f37G S C n (fun env H => aloopK (acodeK S Try.prog C n 99 (cAt f37_c [1, 1, 0, 1, 0, 0])) n env H (kAt S Try.prog C n 99 f37_c [1, 1, 0, 1, 0] (fin Try.prog Try.f37))) x0 H := by kernel_rfl
  have e0 : (fun env H => aloopK (acodeK S Try.prog C n 99 (cAt f37_c [1, 1, 0, 1, 0, 0])) n env H (kAt S Try.prog C n 99 f37_c [1, 1, 0, 1, 0] (fin Try.prog Try.f37))) = (fun env H => f37_L0 S C n n (env 0) (env 3) (env 4) H) := by funext env H; exact f37_L0_eq S C n n env H
  rw [e0] at h1
  exact h1.trans (by kernel_rfl)


theorem f37_eq {gl : Bool} {E : Ext} (hE : E 37 = none) (n : Nat) (x0 : Value) (H : Heap) : acall Try.prog gl E (n + 1) 37 [x0] H = f37 real (acall Try.prog gl E n) n x0 H :=
  (acall_eq (N := 99) Try.func37 (by kernel_rfl) (by kernel_rfl) hE (okgl f37_c (by kernel_rfl)) (by kernel_rfl)).trans (f37_main real _ n x0 H)

/-! incunable/incunableref04.roots -/
noncomputable def f38_c : Code := (Try.f38.body).getD .skip

noncomputable def f38_J1 (S : Seam (Value × Heap)) (C : CallF) (n : Nat) (R0 : Value→Value→Value→Value→Heap→Option (Value × Heap)) (y33 y34 y35 y36 : Value) (H37 : Heap) : Option (Value × Heap) :=
 S.b (up (binB Try.prog .add 3 y36 (.int .i64 1)) H37) fun y38 H39 =>
 R0 y33 y34 y35 y38 H39

noncomputable def f38_L0 (S : Seam (Value × Heap)) (C : CallF) (n : Nat) : Nat → Value → Value → Value → Value → Heap → Option (Value × Heap)
 | 0, _, _, _, _, _ => none
 | m + 1, y1, y2, y3, y4, H5 =>
   S.b (up (lenS y3) H5) fun y6 H7 =>
   S.b (up (binB Try.prog .lss 3 y6 y2) H7) fun y8 H9 =>
   S.b (gd (wd y8 true) (some (y4, H9)) H9) fun y10 H11 =>
   S.b (gd (wd y8 true) (up (binB Try.prog .lss 3 y10 (.int .i64 1000)) H11) H11) fun y12 H13 =>
   S.b (pickV y8 y12 (.bool false) H13) fun y14 H15 =>
   S.i y14
   (S.b (C 52 [y4] H15) fun y16 H17 =>
    S.i y16
    (S.b (C 12 [y1, y4] H17) fun y18 H19 =>
     S.b (extr 0 y18 H19) fun y20 H21 =>
     S.b (extr 1 y18 H21) fun y22 H23 =>
     S.b (bldS 1 1 [(.int .u32 0)] [(0, 1, y20)] H23) fun y24 H25 =>
     S.b (app 1 4 y3 y24 H25) fun y26 H27 =>
     f38_J1 S C n (f38_L0 S C n m) y1 y2 y26 y4 H27)
    (f38_J1 S C n (f38_L0 S C n m) y1 y2 y3 y4 H17))
   (some (y3, H15))

theorem f38_L0_eq (S : Seam (Value × Heap)) (C : CallF) (n : Nat) : ∀ (m : Nat) (env : Env) (H : Heap), aloopK (acodeK S Try.prog C n 32 (cAt f38_c [1, 1, 0, 1, 0, 0])) m env H (kAt S Try.prog C n 32 f38_c [1, 1, 0, 1, 0] (fin Try.prog Try.f38)) = f38_L0 S C n m (env 0) (env 1) (env 5) (env 6) H := by
  intro m env H
  refine aloopK_eq (L := fun m env H => f38_L0 S C n m (env 0) (env 1) (env 5) (env 6) H) (fun env H => rfl) (fun m env H => ?_) m env H
  kernel_rfl


noncomputable def f38 (S : Seam (Value × Heap)) (C : CallF) (n : Nat) (x0 : Value) (x1 : Value) (H : Heap) : Option (Value × Heap) :=
 f38_L0 S C n n x0 x1 (.slice none 0 0) (.int .i64 2) H

noncomputable def f38G (S : Seam (Value × Heap)) (C : CallF) (n : Nat) (P0 : Env → Heap → Option (Value × Heap)) (x0 : Value) (x1 : Value) (H : Heap) : Option (Value × Heap) :=
 P0 (putE 32 (putE 32 (putE 32 (env0 [x0, x1]) (some 4) (.slice none 0 0)) (some 5) (.slice none 0 0)) (some 6) (.int .i64 2)) H

theorem f38_main (S : Seam (Value × Heap)) (C : CallF) (n : Nat) (x0 : Value) (x1 : Value) (H : Heap) : acodeK S Try.prog C n 32 f38_c (env0 [x0, x1]) H (fin Try.prog Try.f38) = f38 S C n x0 x1 H := by
  have h1 : acodeK S Try.prog C n 32 f38_c (env0 [x0, x1]) H (fin Try.prog Try.f38) = f38G S C n (fun env H => aloopK (acodeK S Try.prog C n 32 (cAt f38_c [1, 1, 0, 1, 0, 0])) n env H (kAt S Try.prog C n 32 f38_c [1, 1, 0, 1, 0] (fin Try.prog Try.f38))) x0 x1 H := by kernel_rfl
  have e0 : (fun env H => aloopK (acodeK S Try.prog C n 32 (cAt f38_c [1, 1, 0, 1, 0, 0])) n env H (kAt S Try.prog C n 32 f38_c [1, 1, 0, 1, 0] (fin Try.prog Try.f38))) = (fun env H => f38_L0 S C n n (env 0) (env 1) (env 5) (env 6) H) := by funext env H; exact f38_L0_eq S C n n env H
  rw [e0] at h1
  exact h1.trans (by kernel_rfl)


theorem f38_eq {gl : Bool} {E : Ext} (hE : E 38 = none) (n : Nat) (x0 : Value) (x1 : Value) (H : Heap) : acall Try.prog gl E (n + 1) 38 [x0, x1] H = f38 real (acall Try.prog gl E n) n x0 x1 H :=
  (acall_eq (N := 32) Try.func38 (by kernel_rfl) (by kernel_rfl) hE (okgl f38_c (by kernel_rfl)) (by kernel_rfl)).trans (f38_main real _ n x0 x1 H)

/-! incunable/incunableref04.Begin -/
noncomputable def f39_c : Code := (Try.f39.body).getD .skip

noncomputable def f39_L0 (S : Seam (Value × Heap)) (C : CallF) (n : Nat) : Nat → Value → Value → Value → Value → Heap → Option (Value × Heap)
 | 0, _, _, _, _, _ => none
 | m + 1, y7, y8, y9, y10, H11 =>
   S.b (up (binB Try.prog .lss 3 y10 (.int .i64 8)) H11) fun y12 H13 =>
   S.i y12
   (S.b (up (iAddrS 1 y9 y10) H13) fun y14 H15 =>
    S.b (ldC y14 H15) fun y16 H17 =>
    S.b (up (iAddrA 8 1 y8 y10) H17) fun y18 H19 =>
    S.b (stV 1 y18 y16 H19) fun _ H20 =>
    S.b (up (binB Try.prog .add 3 y10 (.int .i64 1)) H20) fun y21 H22 =>
    f39_L0 S C n m y7 y8 y9 y21 H22)
   (S.b (ldA 8 y8 H13) fun y23 H24 =>
    S.b (stV 8 y7 y23 H24) fun _ H25 =>
    (resM [(ldA 8 y7 H25).map (·.1)]).map fun l => (one l, H25))

theorem f39_L0_eq (S : Seam (Value × Heap)) (C : CallF) (n : Nat) : ∀ (m : Nat) (env : Env) (H : Heap), aloopK (acodeK S Try.prog C n 16 (cAt f39_c [1, 1, 1, 0, 1, 0, 0])) m env H (kAt S Try.prog C n 16 f39_c [1, 1, 1, 0, 1, 0] (fin Try.prog Try.f39)) = f39_L0 S C n m (env 0) (env 1) (env 2) (env 3) H := by
  intro m env H
  refine aloopK_eq (L := fun m env H => f39_L0 S C n m (env 0) (env 1) (env 2) (env 3) H) (fun env H => rfl) (fun m env H => ?_) m env H
  kernel_rfl


noncomputable def f39 (S : Seam (Value × Heap)) (C : CallF) (n : Nat) (H : Heap) : Option (Value × Heap) :=
 S.b (newV [(.int .u32 0), (.int .u32 0), (.int .u32 0), (.int .u32 0), (.int .u32 0), (.int .u32 0), (.int .u32 0), (.int .u32 0)] H) fun y1 H2 =>
 S.b (newV [(.int .u32 0), (.int .u32 0), (.int .u32 0), (.int .u32 0), (.int .u32 0), (.int .u32 0), (.int .u32 0), (.int .u32 0)] H2) fun y3 H4 =>
 S.b (C 38 [(.int .i64 2), (.int .i64 8)] H4) fun y5 H6 =>
 f39_L0 S C n n y1 y3 y5 (.int .i64 0) H6

noncomputable def f39G (S : Seam (Value × Heap)) (C : CallF) (n : Nat) (P0 : Env → Heap → Option (Value × Heap)) (H : Heap) : Option (Value × Heap) :=
 S.b (newV [(.int .u32 0), (.int .u32 0), (.int .u32 0), (.int .u32 0), (.int .u32 0), (.int .u32 0), (.int .u32 0), (.int .u32 0)] H) fun y26 H27 =>
 S.b (newV [(.int .u32 0), (.int .u32 0), (.int .u32 0), (.int .u32 0), (.int .u32 0), (.int .u32 0), (.int .u32 0), (.int .u32 0)] H27) fun y28 H29 =>
 S.b (C 38 [(.int .i64 2), (.int .i64 8)] H29) fun y30 H31 =>
 P0 (putE 16 (putE 16 (putE 16 (putE 16 (putE 16 (env0 []) (some 0) y26) (some 1) y28) (some 4) y30) (some 2) y30) (some 3) (.int .i64 0)) H31

theorem f39_main (S : Seam (Value × Heap)) (C : CallF) (n : Nat) (H : Heap) : acodeK S Try.prog C n 16 f39_c (env0 []) H (fin Try.prog Try.f39) = f39 S C n H := by
  have h1 : acodeK S Try.prog C n 16 f39_c (env0 []) H (fin Try.prog Try.f39) = f39G S C n (fun env H => aloopK (acodeK S Try.prog C n 16 (cAt f39_c [1, 1, 1, 0, 1, 0, 0])) n env H (kAt S Try.prog C n 16 f39_c [1, 1, 1, 0, 1, 0] (fin Try.prog Try.f39))) H := by kernel_rfl
  have e0 : (fun env H => aloopK (acodeK S Try.prog C n 16 (cAt f39_c [1, 1, 1, 0, 1, 0, 0])) n env H (kAt S Try.prog C n 16 f39_c [1, 1, 1, 0, 1, 0] (fin Try.prog Try.f39))) = (fun env H => f39_L0 S C n n (env 0) (env 1) (env 2) (env 3) H) := by funext env H; exact f39_L0_eq S C n n env H
  rw [e0] at h1
  exact h1.trans (by kernel_rfl)


theorem f39_eq {gl : Bool} {E : Ext} (hE : E 39 = none) (n : Nat) (H : Heap) : acall Try.prog gl E (n + 1) 39 [] H = f39 real (acall Try.prog gl E n) n H :=
  (acall_eq (N := 16) Try.func39 (by kernel_rfl) (by kernel_rfl) hE (okgl f39_c (by kernel_rfl)) (by kernel_rfl)).trans (f39_main real _ n H)

/-! incunable/incunableref04.Pad -/
noncomputable def f40_c : Code := (Try.f40.body).getD .skip

noncomputable def f40_L0 (S : Seam (Value × Heap)) (C : CallF) (n : Nat) : Nat → Value → Value → Heap → Option (Value × Heap)
 | 0, _, _, _ => none
 | m + 1, y7, y8, H9 =>
   S.b (up (lenS y8) H9) fun y10 H11 =>
   S.b (up (binB Try.prog .rem 3 y10 (.int .i64 64)) H11) fun y12 H13 =>
   S.b (up (binB Try.prog .neq 3 y12 (.int .i64 56)) H13) fun y14 H15 =>
   S.i y14
   (S.b (bldS 1 1 [(.int .u8 0)] [(0, 1, (.int .u8 0))] H15) fun y16 H17 =>
    S.b (app 1 1 y8 y16 H17) fun y18 H19 =>
    f40_L0 S C n m y7 y18 H19)
   (S.b (up (lenS y7) H15) fun y20 H21 =>
    S.b (up (binB Try.prog .mul 3 (.int .i64 8) y20) H21) fun y22 H23 =>
    S.b (C 53 [y22] H23) fun y24 H25 =>
    S.b (app 1 1 y8 y24 H25) fun y26 H27 =>
    some (y26, H27))

theorem f40_L0_eq (S : Seam (Value × Heap)) (C : CallF) (n : Nat) : ∀ (m : Nat) (env : Env) (H : Heap), aloopK (acodeK S Try.prog C n 23 (cAt f40_c [1, 1, 1, 1, 0, 0, 0])) m env H (kAt S Try.prog C n 23 f40_c [1, 1, 1, 1, 0, 0] (fin Try.prog Try.f40)) = f40_L0 S C n m (env 0) (env 3) H := by
  intro m env H
  refine aloopK_eq (L := fun m env H => f40_L0 S C n m (env 0) (env 3) H) (fun env H => rfl) (fun m env H => ?_) m env H
  kernel_rfl


noncomputable def f40 (S : Seam (Value × Heap)) (C : CallF) (n : Nat) (x0 : Value) (H : Heap) : Option (Value × Heap) :=
 S.b (app 1 1 (.slice none 0 0) x0 H) fun y1 H2 =>
 S.b (bldS 1 1 [(.int .u8 0)] [(0, 1, (.int .u8 128))] H2) fun y3 H4 =>
 S.b (app 1 1 y1 y3 H4) fun y5 H6 =>
 f40_L0 S C n n x0 y5 H6

noncomputable def f40G (S : Seam (Value × Heap)) (C : CallF) (n : Nat) (P0 : Env → Heap → Option (Value × Heap)) (x0 : Value) (H : Heap) : Option (Value × Heap) :=
 S.b (app 1 1 (.slice none 0 0) x0 H) fun y28 H29 =>
 S.b (bldS 1 1 [(.int .u8 0)] [(0, 1, (.int .u8 128))] H29) fun y30 H31 =>
 S.b (app 1 1 y28 y30 H31) fun y32 H33 =>
 P0 (putE 23 (putE 23 (putE 23 (putE 23 (putE 23 (putE 23 (putE 23 (putE 23 (putE 23 (putE 23 (env0 [x0]) (some 2) (.slice none 0 0)) (some 3) (.slice none 0 0)) (some 4) (.slice none 0 0)) (some 5) x0) (some 6) y28) (some 3) y28) (some 7) y28) (some 8) y30) (some 9) y32) (some 3) y32) H33

theorem f40_main (S : Seam (Value × Heap)) (C : CallF) (n : Nat) (x0 : Value) (H : Heap) : acodeK S Try.prog C n 23 f40_c (env0 [x0]) H (fin Try.prog Try.f40) = f40 S C n x0 H := by
  have h1 : acodeK S Try.prog C n 23 f40_c (env0 [x0]) H (fin Try.prog Try.f40) = f40G S C n (fun env H => aloopK (acodeK S Try.prog C n 23 (cAt f40_c [1, 1, 1, 1, 0, 0, 0])) n env H (kAt S Try.prog C n 23 f40_c [1, 1, 1, 1, 0, 0] (fin Try.prog Try.f40))) x0 H := by kernel_rfl
  have e0 : (fun env H => aloopK (acodeK S Try.prog C n 23 (cAt f40_c [1, 1, 1, 1, 0, 0, 0])) n env H (kAt S Try.prog C n 23 f40_c [1, 1, 1, 1, 0, 0] (fin Try.prog Try.f40))) = (fun env H => f40_L0 S C n n (env 0) (env 3) H) := by funext env H; exact f40_L0_eq S C n n env H
  rw [e0] at h1
  exact h1.trans (by kernel_rfl)


theorem f40_eq {gl : Bool} {E : Ext} (hE : E 40 = none) (n : Nat) (x0 : Value) (H : Heap) : acall Try.prog gl E (n + 1) 40 [x0] H = f40 real (acall Try.prog gl E n) n x0 H :=
  (acall_eq (N := 23) Try.func40 (by kernel_rfl) (by kernel_rfl) hE (okgl f40_c (by kernel_rfl)) (by kernel_rfl)).trans (f40_main real _ n x0 H)

/-! strings.IndexByte -/
noncomputable def f43_c : Code := (Try.f43.body).getD .skip

noncomputable def f43 (S : Seam (Value × Heap)) (C : CallF) (n : Nat) (x0 : Value) (x1 : Value) (H : Heap) : Option (Value × Heap) :=
 S.b (C 56 [x0, x1] H) fun y1 H2 =>
 some (y1, H2)

theorem f43_main (S : Seam (Value × Heap)) (C : CallF) (n : Nat) (x0 : Value) (x1 : Value) (H : Heap) : acodeK S Try.prog C n 8 f43_c (env0 [x0, x1]) H (fin Try.prog Try.f43) = f43 S C n x0 x1 H := by
  kernel_rfl


theorem f43_eq {gl : Bool} {E : Ext} (hE : E 43 = none) (n : Nat) (x0 : Value) (x1 : Value) (H : Heap) : acall Try.prog gl E (n + 1) 43 [x0, x1] H = f43 real (acall Try.prog gl E n) n x0 x1 H :=
  (acall_eq (N := 8) Try.func43 (by kernel_rfl) (by kernel_rfl) hE (okgl f43_c (by kernel_rfl)) (by kernel_rfl)).trans (f43_main real _ n x0 x1 H)

/-! incunable/incunableref04.worth -/
noncomputable def f44_c : Code := (Try.f44.body).getD .skip

noncomputable def f44_L0 (S : Seam (Value × Heap)) (C : CallF) (n : Nat) : Nat → Value → Value → Heap → Option (Value × Heap)
 | 0, _, _, _ => none
 | m + 1, y1, y2, H3 =>
   S.b (up (binB Try.prog .lss 3 y2 (.int .i64 16)) H3) fun y4 H5 =>
   S.i y4
   (S.b (C 47 [y2] H5) fun y6 H7 =>
    S.b (up (binB Try.prog .eql 5 y6 y1) H7) fun y8 H9 =>
    S.i y8
    (some (y2, H9))
    (S.b (up (binB Try.prog .add 3 y2 (.int .i64 1)) H9) fun y10 H11 =>
     f44_L0 S C n m y1 y10 H11))
   (some ((.int .i64 (-1)), H5))

theorem f44_L0_eq (S : Seam (Value × Heap)) (C : CallF) (n : Nat) : ∀ (m : Nat) (env : Env) (H : Heap), aloopK (acodeK S Try.prog C n 13 (cAt f44_c [1, 0, 1, 0, 0])) m env H (kAt S Try.prog C n 13 f44_c [1, 0, 1, 0] (fin Try.prog Try.f44)) = f44_L0 S C n m (env 0) (env 3) H := by
  intro m env H
  refine aloopK_eq (L := fun m env H => f44_L0 S C n m (env 0) (env 3) H) (fun env H => rfl) (fun m env H => ?_) m env H
  kernel_rfl


noncomputable def f44 (S : Seam (Value × Heap)) (C : CallF) (n : Nat) (x0 : Value) (H : Heap) : Option (Value × Heap) :=
 f44_L0 S C n n x0 (.int .i64 0) H

noncomputable def f44G (S : Seam (Value × Heap)) (C : CallF) (n : Nat) (P0 : Env → Heap → Option (Value × Heap)) (x0 : Value) (H : Heap) : Option (Value × Heap) :=
 P0 (putE 13 (putE 13 (env0 [x0]) (some 2) (.int .i64 0)) (some 3) (.int .i64 0)) H

theorem f44_main (S : Seam (Value × Heap)) (C : CallF) (n : Nat) (x0 : Value) (H : Heap) : acodeK S Try.prog C n 13 f44_c (env0 [x0]) H (fin Try.prog Try.f44) = f44 S C n x0 H := by
  have h1 : acodeK S Try.prog C n 13 f44_c (env0 [x0]) H (fin Try.prog Try.f44) = f44G S C n (fun env H => aloopK (acodeK S Try.prog C n 13 (cAt f44_c [1, 0, 1, 0, 0])) n env H (kAt S Try.prog C n 13 f44_c [1, 0, 1, 0] (fin Try.prog Try.f44))) x0 H := by kernel_rfl
  have e0 : (fun env H => aloopK (acodeK S Try.prog C n 13 (cAt f44_c [1, 0, 1, 0, 0])) n env H (kAt S Try.prog C n 13 f44_c [1, 0, 1, 0] (fin Try.prog Try.f44))) = (fun env H => f44_L0 S C n n (env 0) (env 3) H) := by funext env H; exact f44_L0_eq S C n n env H
  rw [e0] at h1
  exact h1.trans (by kernel_rfl)


theorem f44_eq {gl : Bool} {E : Ext} (hE : E 44 = none) (n : Nat) (x0 : Value) (H : Heap) : acall Try.prog gl E (n + 1) 44 [x0] H = f44 real (acall Try.prog gl E n) n x0 H :=
  (acall_eq (N := 13) Try.func44 (by kernel_rfl) (by kernel_rfl) hE (okgl f44_c (by kernel_rfl)) (by kernel_rfl)).trans (f44_main real _ n x0 H)

/-! incunable/incunableref04.digit -/
noncomputable def f47_c : Code := (Try.f47.body).getD .skip

noncomputable def f47 (S : Seam (Value × Heap)) (C : CallF) (n : Nat) (x0 : Value) (H : Heap) : Option (Value × Heap) :=
 S.b (up (binB Try.prog .lss 3 x0 (.int .i64 10)) H) fun y1 H2 =>
 S.i y1
 (S.b (up (binB Try.prog .add 3 (.int .i64 48) x0) H2) fun y3 H4 =>
  S.b (cvI .u8 y3 H4) fun y5 H6 =>
  some (y5, H6))
 (S.b (up (binB Try.prog .add 3 (.int .i64 87) x0) H2) fun y7 H8 =>
  S.b (cvI .u8 y7 H8) fun y9 H10 =>
  some (y9, H10))

theorem f47_main (S : Seam (Value × Heap)) (C : CallF) (n : Nat) (x0 : Value) (H : Heap) : acodeK S Try.prog C n 11 f47_c (env0 [x0]) H (fin Try.prog Try.f47) = f47 S C n x0 H := by
  kernel_rfl


theorem f47_eq {gl : Bool} {E : Ext} (hE : E 47 = none) (n : Nat) (x0 : Value) (H : Heap) : acall Try.prog gl E (n + 1) 47 [x0] H = f47 real (acall Try.prog gl E n) n x0 H :=
  (acall_eq (N := 11) Try.func47 (by kernel_rfl) (by kernel_rfl) hE (okgl f47_c (by kernel_rfl)) (by kernel_rfl)).trans (f47_main real _ n x0 H)

/-! math/bits.Mul64 -/
noncomputable def f48_c : Code := (Try.f48.body).getD .skip

noncomputable def f48 (S : Seam (Value × Heap)) (C : CallF) (n : Nat) (x0 : Value) (x1 : Value) (H : Heap) : Option (Value × Heap) :=
 S.b (up (binB Try.prog .and 49 x0 (.int .u64 4294967295)) H) fun y1 H2 =>
 S.b (up (binB Try.prog .shr 49 x0 (.int .u64 32)) H2) fun y3 H4 =>
 S.b (up (binB Try.prog .and 49 x1 (.int .u64 4294967295)) H4) fun y5 H6 =>
 S.b (up (binB Try.prog .shr 49 x1 (.int .u64 32)) H6) fun y7 H8 =>
 S.b (up (binB Try.prog .mul 49 y1 y5) H8) fun y9 H10 =>
 S.b (up (binB Try.prog .mul 49 y3 y5) H10) fun y11 H12 =>
 S.b (up (binB Try.prog .shr 49 y9 (.int .u64 32)) H12) fun y13 H14 =>
 S.b (up (binB Try.prog .add 49 y11 y13) H14) fun y15 H16 =>
 S.b (up (binB Try.prog .and 49 y15 (.int .u64 4294967295)) H16) fun y17 H18 =>
 S.b (up (binB Try.prog .shr 49 y15 (.int .u64 32)) H18) fun y19 H20 =>
 S.b (up (binB Try.prog .mul 49 y1 y7) H20) fun y21 H22 =>
 S.b (up (binB Try.prog .add 49 y17 y21) H22) fun y23 H24 =>
 S.b (up (binB Try.prog .mul 49 y3 y7) H24) fun y25 H26 =>
 S.b (up (binB Try.prog .add 49 y25 y19) H26) fun y27 H28 =>
 S.b (up (binB Try.prog .shr 49 y23 (.int .u64 32)) H28) fun y29 H30 =>
 S.b (up (binB Try.prog .add 49 y27 y29) H30) fun y31 H32 =>
 S.b (up (binB Try.prog .mul 49 x0 x1) H32) fun y33 H34 =>
 some (.tuple #[y31, y33], H34)

theorem f48_main (S : Seam (Value × Heap)) (C : CallF) (n : Nat) (x0 : Value) (x1 : Value) (H : Heap) : acodeK S Try.prog C n 51 f48_c (env0 [x0, x1]) H (fin Try.prog Try.f48) = f48 S C n x0 x1 H := by
  kernel_rfl


theorem f48_eq {gl : Bool} {E : Ext} (hE : E 48 = none) (n : Nat) (x0 : Value) (x1 : Value) (H : Heap) : acall Try.prog gl E (n + 1) 48 [x0, x1] H = f48 real (acall Try.prog gl E n) n x0 x1 H :=
  (acall_eq (N := 51) Try.func48 (by kernel_rfl) (by kernel_rfl) hE (okgl f48_c (by kernel_rfl)) (by kernel_rfl)).trans (f48_main real _ n x0 x1 H)

/-! math/bits.RotateLeft32 -/
noncomputable def f50_c : Code := (Try.f50.body).getD .skip

noncomputable def f50 (S : Seam (Value × Heap)) (C : CallF) (n : Nat) (x0 : Value) (x1 : Value) (H : Heap) : Option (Value × Heap) :=
 S.b (cvI .u64 x1 H) fun y1 H2 =>
 S.b (up (binB Try.prog .and 67 y1 (.int .u64 31)) H2) fun y3 H4 =>
 S.b (up (binB Try.prog .shl 22 x0 y3) H4) fun y5 H6 =>
 S.b (up (binB Try.prog .sub 67 (.int .u64 32) y3) H6) fun y7 H8 =>
 S.b (up (binB Try.prog .shr 22 x0 y7) H8) fun y9 H10 =>
 S.b (up (binB Try.prog .or 22 y5 y9) H10) fun y11 H12 =>
 some (y11, H12)

theorem f50_main (S : Seam (Value × Heap)) (C : CallF) (n : Nat) (x0 : Value) (x1 : Value) (H : Heap) : acodeK S Try.prog C n 17 f50_c (env0 [x0, x1]) H (fin Try.prog Try.f50) = f50 S C n x0 x1 H := by
  kernel_rfl


theorem f50_eq {gl : Bool} {E : Ext} (hE : E 50 = none) (n : Nat) (x0 : Value) (x1 : Value) (H : Heap) : acall Try.prog gl E (n + 1) 50 [x0, x1] H = f50 real (acall Try.prog gl E n) n x0 x1 H :=
  (acall_eq (N := 17) Try.func50 (by kernel_rfl) (by kernel_rfl) hE (okgl f50_c (by kernel_rfl)) (by kernel_rfl)).trans (f50_main real _ n x0 x1 H)

/-! incunable/incunableref04.turn -/
noncomputable def f51_c : Code := (Try.f51.body).getD .skip

noncomputable def f51 (S : Seam (Value × Heap)) (C : CallF) (n : Nat) (x0 : Value) (x1 : Value) (H : Heap) : Option (Value × Heap) :=
 S.b (up (binB Try.prog .shr 22 x0 x1) H) fun y1 H2 =>
 S.b (up (binB Try.prog .sub 3 (.int .i64 32) x1) H2) fun y3 H4 =>
 S.b (up (binB Try.prog .shl 22 x0 y3) H4) fun y5 H6 =>
 S.b (up (binB Try.prog .or 22 y1 y5) H6) fun y7 H8 =>
 some (y7, H8)

theorem f51_main (S : Seam (Value × Heap)) (C : CallF) (n : Nat) (x0 : Value) (x1 : Value) (H : Heap) : acodeK S Try.prog C n 13 f51_c (env0 [x0, x1]) H (fin Try.prog Try.f51) = f51 S C n x0 x1 H := by
  kernel_rfl


theorem f51_eq {gl : Bool} {E : Ext} (hE : E 51 = none) (n : Nat) (x0 : Value) (x1 : Value) (H : Heap) : acall Try.prog gl E (n + 1) 51 [x0, x1] H = f51 real (acall Try.prog gl E n) n x0 x1 H :=
  (acall_eq (N := 13) Try.func51 (by kernel_rfl) (by kernel_rfl) hE (okgl f51_c (by kernel_rfl)) (by kernel_rfl)).trans (f51_main real _ n x0 x1 H)

/-! incunable/incunableref04.prime -/
noncomputable def f52_c : Code := (Try.f52.body).getD .skip

noncomputable def f52_L0 (S : Seam (Value × Heap)) (C : CallF) (n : Nat) : Nat → Value → Value → Heap → Option (Value × Heap)
 | 0, _, _, _ => none
 | m + 1, y1, y2, H3 =>
   S.b (up (binB Try.prog .lss 3 y2 y1) H3) fun y4 H5 =>
   S.i y4
   (S.b (up (binB Try.prog .rem 3 y1 y2) H5) fun y6 H7 =>
    S.b (up (binB Try.prog .eql 3 y6 (.int .i64 0)) H7) fun y8 H9 =>
    S.i y8
    (some ((.bool false), H9))
    (S.b (up (binB Try.prog .add 3 y2 (.int .i64 1)) H9) fun y10 H11 =>
     f52_L0 S C n m y1 y10 H11))
   (S.b (up (binB Try.prog .gtr 3 y1 (.int .i64 1)) H5) fun y12 H13 =>
    some (y12, H13))

theorem f52_L0_eq (S : Seam (Value × Heap)) (C : CallF) (n : Nat) : ∀ (m : Nat) (env : Env) (H : Heap), aloopK (acodeK S Try.prog C n 15 (cAt f52_c [1, 0, 1, 0, 0])) m env H (kAt S Try.prog C n 15 f52_c [1, 0, 1, 0] (fin Try.prog Try.f52)) = f52_L0 S C n m (env 0) (env 3) H := by
  intro m env H
  refine aloopK_eq (L := fun m env H => f52_L0 S C n m (env 0) (env 3) H) (fun env H => rfl) (fun m env H => ?_) m env H
  kernel_rfl


noncomputable def f52 (S : Seam (Value × Heap)) (C : CallF) (n : Nat) (x0 : Value) (H : Heap) : Option (Value × Heap) :=
 f52_L0 S C n n x0 (.int .i64 2) H

noncomputable def f52G (S : Seam (Value × Heap)) (C : CallF) (n : Nat) (P0 : Env → Heap → Option (Value × Heap)) (x0 : Value) (H : Heap) : Option (Value × Heap) :=
 P0 (putE 15 (putE 15 (env0 [x0]) (some 2) (.bool false)) (some 3) (.int .i64 2)) H

theorem f52_main (S : Seam (Value × Heap)) (C : CallF) (n : Nat) (x0 : Value) (H : Heap) : acodeK S Try.prog C n 15 f52_c (env0 [x0]) H (fin Try.prog Try.f52) = f52 S C n x0 H := by
  have h1 : acodeK S Try.prog C n 15 f52_c (env0 [x0]) H (fin Try.prog Try.f52) = f52G S C n (fun env H => aloopK (acodeK S Try.prog C n 15 (cAt f52_c [1, 0, 1, 0, 0])) n env H (kAt S Try.prog C n 15 f52_c [1, 0, 1, 0] (fin Try.prog Try.f52))) x0 H := by kernel_rfl
  have e0 : (fun env H => aloopK (acodeK S Try.prog C n 15 (cAt f52_c [1, 0, 1, 0, 0])) n env H (kAt S Try.prog C n 15 f52_c [1, 0, 1, 0] (fin Try.prog Try.f52))) = (fun env H => f52_L0 S C n n (env 0) (env 3) H) := by funext env H; exact f52_L0_eq S C n n env H
  rw [e0] at h1
  exact h1.trans (by kernel_rfl)


theorem f52_eq {gl : Bool} {E : Ext} (hE : E 52 = none) (n : Nat) (x0 : Value) (H : Heap) : acall Try.prog gl E (n + 1) 52 [x0] H = f52 real (acall Try.prog gl E n) n x0 H :=
  (acall_eq (N := 15) Try.func52 (by kernel_rfl) (by kernel_rfl) hE (okgl f52_c (by kernel_rfl)) (by kernel_rfl)).trans (f52_main real _ n x0 H)

/-! incunable/incunableref04.eight -/
noncomputable def f53_c : Code := (Try.f53.body).getD .skip

noncomputable def f53_L0 (S : Seam (Value × Heap)) (C : CallF) (n : Nat) : Nat → Value → Value → Value → Heap → Option (Value × Heap)
 | 0, _, _, _, _ => none
 | m + 1, y1, y2, y3, H4 =>
   S.b (up (binB Try.prog .geq 3 y3 (.int .i64 0)) H4) fun y5 H6 =>
   S.i y5
   (S.b (up (binB Try.prog .mul 3 (.int .i64 8) y3) H6) fun y7 H8 =>
    S.b (up (binB Try.prog .shr 3 y1 y7) H8) fun y9 H10 =>
    S.b (cvI .u8 y9 H10) fun y11 H12 =>
    S.b (bldS 1 1 [(.int .u8 0)] [(0, 1, y11)] H12) fun y13 H14 =>
    S.b (app 1 1 y2 y13 H14) fun y15 H16 =>
    S.b (up (binB Try.prog .sub 3 y3 (.int .i64 1)) H16) fun y17 H18 =>
    f53_L0 S C n m y1 y15 y17 H18)
   (some (y2, H6))

theorem f53_L0_eq (S : Seam (Value × Heap)) (C : CallF) (n : Nat) : ∀ (m : Nat) (env : Env) (H : Heap), aloopK (acodeK S Try.prog C n 18 (cAt f53_c [1, 1, 0, 1, 0, 0])) m env H (kAt S Try.prog C n 18 f53_c [1, 1, 0, 1, 0] (fin Try.prog Try.f53)) = f53_L0 S C n m (env 0) (env 3) (env 4) H := by
  intro m env H
  refine aloopK_eq (L := fun m env H => f53_L0 S C n m (env 0) (env 3) (env 4) H) (fun env H => rfl) (fun m env H => ?_) m env H
  kernel_rfl


noncomputable def f53 (S : Seam (Value × Heap)) (C : CallF) (n : Nat) (x0 : Value) (H : Heap) : Option (Value × Heap) :=
 f53_L0 S C n n x0 (.slice none 0 0) (.int .i64 7) H

noncomputable def f53G (S : Seam (Value × Heap)) (C : CallF) (n : Nat) (P0 : Env → Heap → Option (Value × Heap)) (x0 : Value) (H : Heap) : Option (Value × Heap) :=
 P0 (putE 18 (putE 18 (putE 18 (env0 [x0]) (some 2) (.slice none 0 0)) (some 3) (.slice none 0 0)) (some 4) (.int .i64 7)) H

theorem f53_main (S : Seam (Value × Heap)) (C : CallF) (n : Nat) (x0 : Value) (H : Heap) : acodeK S Try.prog C n 18 f53_c (env0 [x0]) H (fin Try.prog Try.f53) = f53 S C n x0 H := by
  have h1 : acodeK S Try.prog C n 18 f53_c (env0 [x0]) H (fin Try.prog Try.f53) = f53G S C n (fun env H => aloopK (acodeK S Try.prog C n 18 (cAt f53_c [1, 1, 0, 1, 0, 0])) n env H (kAt S Try.prog C n 18 f53_c [1, 1, 0, 1, 0] (fin Try.prog Try.f53))) x0 H := by kernel_rfl
  have e0 : (fun env H => aloopK (acodeK S Try.prog C n 18 (cAt f53_c [1, 1, 0, 1, 0, 0])) n env H (kAt S Try.prog C n 18 f53_c [1, 1, 0, 1, 0] (fin Try.prog Try.f53))) = (fun env H => f53_L0 S C n n (env 0) (env 3) (env 4) H) := by funext env H; exact f53_L0_eq S C n n env H
  rw [e0] at h1
  exact h1.trans (by kernel_rfl)


theorem f53_eq {gl : Bool} {E : Ext} (hE : E 53 = none) (n : Nat) (x0 : Value) (H : Heap) : acall Try.prog gl E (n + 1) 53 [x0] H = f53 real (acall Try.prog gl E n) n x0 H :=
  (acall_eq (N := 18) Try.func53 (by kernel_rfl) (by kernel_rfl) hE (okgl f53_c (by kernel_rfl)) (by kernel_rfl)).trans (f53_main real _ n x0 H)

/-! internal/stringslite.IndexByte -/
noncomputable def f56_c : Code := (Try.f56.body).getD .skip

noncomputable def f56 (S : Seam (Value × Heap)) (C : CallF) (n : Nat) (x0 : Value) (x1 : Value) (H : Heap) : Option (Value × Heap) :=
 S.b (C 58 [x0, x1] H) fun y1 H2 =>
 some (y1, H2)

theorem f56_main (S : Seam (Value × Heap)) (C : CallF) (n : Nat) (x0 : Value) (x1 : Value) (H : Heap) : acodeK S Try.prog C n 8 f56_c (env0 [x0, x1]) H (fin Try.prog Try.f56) = f56 S C n x0 x1 H := by
  kernel_rfl


theorem f56_eq {gl : Bool} {E : Ext} (hE : E 56 = none) (n : Nat) (x0 : Value) (x1 : Value) (H : Heap) : acall Try.prog gl E (n + 1) 56 [x0, x1] H = f56 real (acall Try.prog gl E n) n x0 x1 H :=
  (acall_eq (N := 8) Try.func56 (by kernel_rfl) (by kernel_rfl) hE (okgl f56_c (by kernel_rfl)) (by kernel_rfl)).trans (f56_main real _ n x0 x1 H)

end Go.Eng
