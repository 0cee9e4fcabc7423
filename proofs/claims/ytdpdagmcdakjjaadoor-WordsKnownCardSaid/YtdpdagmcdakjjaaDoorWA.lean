/- The functions, printed. -/
import Derived.Test.YtdpdagmcdakjjaaDoorProg
import Derived.Test.YtdpdagmcdakjjaaDoorEnhT
import Derived.KernelRfl
set_option linter.unusedVariables false
set_option maxRecDepth 100000
namespace Go.Eng
open Go Go.Proofs

/-! incunable/incunablelaw14.WordsCut -/
noncomputable def f3_c : Code := (Tryd.f3.body).getD .skip

noncomputable def f3 (S : Seam (Value × Heap)) (C : CallF) (n : Nat) (x0 : Value) (H : Heap) : Option (Value × Heap) :=
 S.b (C 10 [x0] H) fun x11_1 H2 =>
 S.b (C 11 [x11_1] H2) fun x14_3 H4 =>
 S.b (extr 0 x14_3 H4) fun x15_5 H6 =>
 S.b (extr 1 x14_3 H6) fun x16_7 H8 =>
 S.b (extr 2 x14_3 H8) fun x17_9 H10 =>
 S.b (C 12 [x0] H10) fun x20_11 H12 =>
 S.b (extr 0 x20_11 H12) fun x21_13 H14 =>
 S.b (extr 1 x20_11 H14) fun x22_15 H16 =>
 S.b (extr 2 x20_11 H16) fun x23_17 H18 =>
 S.b (C 13 [x15_5, x21_13] H18) fun x26_19 H20 =>
 S.b (gd (wd x26_19 true) (some (x16_7, H20)) H20) fun x28_21 H22 =>
 S.b (gd (wd x26_19 true) (some (x22_15, H22)) H22) fun x29_23 H24 =>
 S.b (gd (wd x26_19 true) (up (binB Tryd.prog .eql 3 x28_21 x29_23) H24) H24) fun x30_25 H26 =>
 S.b (pickV x26_19 x30_25 (.bool false) H26) fun x31_27 H28 =>
 S.b (gd (wd x31_27 true) (some (x17_9, H28)) H28) fun x33_29 H30 =>
 S.b (gd (wd x31_27 true) (some (x23_17, H30)) H30) fun x34_31 H32 =>
 S.b (gd (wd x31_27 true) (up (binB Tryd.prog .eql 25 x33_29 x34_31) H32) H32) fun x35_33 H34 =>
 S.b (pickV x31_27 x35_33 (.bool false) H34) fun x36_35 H36 =>
 S.b (gd (wd x36_35 true) (some (x11_1, H36)) H36) fun x38_37 H38 =>
 S.b (gd (wd x36_35 true) (some (x0, H38)) H38) fun x39_39 H40 =>
 S.b (gd (wd x36_35 true) (C 14 [x38_37, x39_39] H40) H40) fun x40_41 H42 =>
 S.b (pickV x36_35 x40_41 (.bool false) H42) fun x41_43 H44 =>
 S.b (gd (wd x41_43 true) (C 15 [] H44) H44) fun x43_45 H46 =>
 S.b (pickV x41_43 x43_45 (.bool false) H46) fun x44_47 H48 =>
 some (x44_47, H48)

theorem f3_main (S : Seam (Value × Heap)) (C : CallF) (n : Nat) (x0 : Value) (H : Heap) : acodeK S Tryd.prog C n 45 f3_c (env0 [x0]) H (fin Tryd.prog Tryd.f3) = f3 S C n x0 H := by
  kernel_rfl


theorem f3_eq {E : Ext} (hE : E 3 = none) (n : Nat) (x0 : Value) (H : Heap) : acall Tryd.prog true E (n + 1) 3 [x0] H = f3 real (acall Tryd.prog true E n) n x0 H :=
  (acall_eq (N := 45) Tryd.func3 (by kernel_rfl) (by kernel_rfl) hE (by kernel_rfl) (by kernel_rfl)).trans (f3_main real _ n x0 H)

/-! incunable/incunablelaw14.WordsOrder -/
noncomputable def f4_c : Code := (Tryd.f4.body).getD .skip

noncomputable def f4_L0 (S : Seam (Value × Heap)) (C : CallF) (n : Nat) : Nat → Value → Value → Value → Value → Value → Heap → Option (Value × Heap)
 | 0, _, _, _, _, _, _ => none
 | m + 1, x0_57, x3_58, x6_59, x10_60, x11_61, H62 =>
   S.b (up (lenS x3_58) H62) fun x57_63 H64 =>
   S.b (up (binB Tryd.prog .lss 3 x11_61 x57_63) H64) fun x58_65 H66 =>
   S.i x58_65
   (S.b (up (iAddrS 3 x3_58 x11_61) H66) fun x63_67 H68 =>
    S.b (ldA 3 x63_67 H68) fun x64_69 H70 =>
    S.b (newV [(.int .i64 0), (.int .i64 0), (.int .i64 0)] H70) fun x12_71 H72 =>
    S.b (stV 3 x12_71 x64_69 H72) fun _ H73 =>
    S.b (up (fAddr 0 x12_71) H73) fun x65_74 H75 =>
    S.b (ldC x65_74 H75) fun x66_76 H77 =>
    S.b (up (binB Tryd.prog .lss 3 x66_76 (.int .i64 1)) H77) fun x67_78 H79 =>
    S.b (gd (wd x67_78 false) (up (fAddr 0 x12_71) H79) H79) fun x69_80 H81 =>
    S.b (gd (wd x67_78 false) (ldC x69_80 H81) H81) fun x70_82 H83 =>
    S.b (gd (wd x67_78 false) (up (binB Tryd.prog .gtr 3 x70_82 (.int .i64 13)) H83) H83) fun x71_84 H85 =>
    S.b (pickV x67_78 (.bool true) x71_84 H85) fun x72_86 H87 =>
    S.b (gd (wd x72_86 false) (up (fAddr 1 x12_71) H87) H87) fun x74_88 H89 =>
    S.b (gd (wd x72_86 false) (ldC x74_88 H89) H89) fun x75_90 H91 =>
    S.b (gd (wd x72_86 false) (some (x10_60, H91)) H91) fun x76_92 H93 =>
    S.b (gd (wd x72_86 false) (up (binB Tryd.prog .lss 3 x75_90 x76_92) H93) H93) fun x77_94 H95 =>
    S.b (pickV x72_86 (.bool true) x77_94 H95) fun x78_96 H97 =>
    S.b (gd (wd x78_96 false) (up (fAddr 2 x12_71) H97) H97) fun x80_98 H99 =>
    S.b (gd (wd x78_96 false) (ldC x80_98 H99) H99) fun x81_100 H101 =>
    S.b (gd (wd x78_96 false) (up (fAddr 1 x12_71) H101) H101) fun x82_102 H103 =>
    S.b (gd (wd x78_96 false) (ldC x82_102 H103) H103) fun x83_104 H105 =>
    S.b (gd (wd x78_96 false) (up (binB Tryd.prog .leq 3 x81_100 x83_104) H105) H105) fun x84_106 H107 =>
    S.b (pickV x78_96 (.bool true) x84_106 H107) fun x85_108 H109 =>
    S.b (gd (wd x85_108 false) (up (fAddr 2 x12_71) H109) H109) fun x87_110 H111 =>
    S.b (gd (wd x85_108 false) (ldC x87_110 H111) H111) fun x88_112 H113 =>
    S.b (gd (wd x85_108 false) (some (x6_59, H113)) H113) fun x89_114 H115 =>
    S.b (gd (wd x85_108 false) (up (binB Tryd.prog .gtr 3 x88_112 x89_114) H115) H115) fun x90_116 H117 =>
    S.b (pickV x85_108 (.bool true) x90_116 H117) fun x91_118 H119 =>
    S.b (gd (wd x91_118 false) (some (x0_57, H119)) H119) fun x93_120 H121 =>
    S.b (gd (wd x91_118 false) (some (x10_60, H121)) H121) fun x94_122 H123 =>
    S.b (gd (wd x91_118 false) (up (fAddr 1 x12_71) H123) H123) fun x95_124 H125 =>
    S.b (gd (wd x91_118 false) (ldC x95_124 H125) H125) fun x96_126 H127 =>
    S.b (gd (wd x91_118 false) (up (slcS 1 x93_120 (some x94_122) (some x96_126) none) H127) H127) fun x97_128 H129 =>
    S.b (gd (wd x91_118 false) (C 16 [x97_128] H129) H129) fun x98_130 H131 =>
    S.b (gd (wd x91_118 false) (up (unB .not x98_130) H131) H131) fun x99_132 H133 =>
    S.b (pickV x91_118 (.bool true) x99_132 H133) fun x100_134 H135 =>
    S.i x100_134
    (some ((.bool false), H135))
    (S.b (up (fAddr 2 x12_71) H135) fun x101_136 H137 =>
     S.b (ldC x101_136 H137) fun x102_138 H139 =>
     S.b (up (binB Tryd.prog .add 3 x11_61 (.int .i64 1)) H139) fun x60_140 H141 =>
     f4_L0 S C n m x0_57 x3_58 x6_59 x102_138 x60_140 H141))
   (S.b (up (slcS 1 x0_57 (some x10_60) (some x6_59) none) H66) fun x106_142 H143 =>
    S.b (C 16 [x106_142] H143) fun x107_144 H145 =>
    S.b (gd (wd x107_144 true) (C 15 [] H145) H145) fun x109_146 H147 =>
    S.b (pickV x107_144 x109_146 (.bool false) H147) fun x110_148 H149 =>
    some (x110_148, H149))

theorem f4_L0_eq (S : Seam (Value × Heap)) (C : CallF) (n : Nat) : ∀ (m : Nat) (env : Env) (H : Heap), aloopK (acodeK S Tryd.prog C n 111 (cAt f4_c [1, 1, 1, 1, 1, 1, 0, 1, 0, 0])) m env H (kAt S Tryd.prog C n 111 f4_c [1, 1, 1, 1, 1, 1, 0, 1, 0] (fin Tryd.prog Tryd.f4)) = f4_L0 S C n m (env 0) (env 3) (env 6) (env 10) (env 11) H := by
  intro m env H
  refine aloopK_eq (L := fun m env H => f4_L0 S C n m (env 0) (env 3) (env 6) (env 10) (env 11) H) (fun env H => rfl) (fun m env H => ?_) m env H
  kernel_rfl


noncomputable def f4 (S : Seam (Value × Heap)) (C : CallF) (n : Nat) (x0 : Value) (H : Heap) : Option (Value × Heap) :=
 S.b (C 11 [x0] H) fun x15_1 H2 =>
 S.b (extr 0 x15_1 H2) fun x16_3 H4 =>
 S.b (extr 1 x15_1 H4) fun x17_5 H6 =>
 S.b (extr 2 x15_1 H6) fun x18_7 H8 =>
 S.b (up (binB Tryd.prog .eql 25 x18_7 (.int .i64 5)) H8) fun x20_9 H10 =>
 S.i x20_9
 (S.b (up (lenS x0) H10) fun x22_11 H12 =>
  S.b (up (binB Tryd.prog .gtr 3 x22_11 (.int .i64 8192)) H12) fun x23_13 H14 =>
  S.b (gd (wd x23_13 true) (C 15 [] H14) H14) fun x25_15 H16 =>
  S.b (pickV x23_13 x25_15 (.bool false) H16) fun x26_17 H18 =>
  some (x26_17, H18))
 (S.b (up (lenS x0) H10) fun x28_19 H20 =>
  S.b (up (binB Tryd.prog .neq 25 x18_7 (.int .i64 0)) H20) fun x30_21 H22 =>
  S.i x30_21
  (S.b (up (binB Tryd.prog .neq 25 x18_7 (.int .i64 140)) H22) fun x32_23 H24 =>
   S.b (gd (wd x32_23 false) (some (x17_5, H24)) H24) fun x34_25 H26 =>
   S.b (gd (wd x32_23 false) (up (binB Tryd.prog .lss 3 x34_25 (.int .i64 0)) H26) H26) fun x35_27 H28 =>
   S.b (pickV x32_23 (.bool true) x35_27 H28) fun x36_29 H30 =>
   S.b (gd (wd x36_29 false) (some (x17_5, H30)) H30) fun x38_31 H32 =>
   S.b (gd (wd x36_29 false) (some (x0, H32)) H32) fun x39_33 H34 =>
   S.b (gd (wd x36_29 false) (up (lenS x39_33) H34) H34) fun x40_35 H36 =>
   S.b (gd (wd x36_29 false) (up (binB Tryd.prog .geq 3 x38_31 x40_35) H36) H36) fun x41_37 H38 =>
   S.b (pickV x36_29 (.bool true) x41_37 H38) fun x42_39 H40 =>
   S.i x42_39
   (some ((.bool false), H40))
   (S.b (up (slcS 1 x0 none (some x17_5) none) H40) fun x47_41 H42 =>
    S.b (C 11 [x47_41] H42) fun x48_43 H44 =>
    S.b (extr 0 x48_43 H44) fun x49_45 H46 =>
    S.b (extr 1 x48_43 H46) fun x50_47 H48 =>
    S.b (extr 2 x48_43 H48) fun x51_49 H50 =>
    S.b (up (binB Tryd.prog .neq 25 x51_49 (.int .i64 0)) H50) fun x53_51 H52 =>
    S.i x53_51
    (some ((.bool false), H52))
    (f4_L0 S C n n x0 x49_45 x17_5 (.int .i64 0) (.int .i64 0) H52)))
  (f4_L0 S C n n x0 x16_3 x28_19 (.int .i64 0) (.int .i64 0) H22))

noncomputable def f4G (S : Seam (Value × Heap)) (C : CallF) (n : Nat) (P0 : Env → Heap → Option (Value × Heap)) (x0 : Value) (H : Heap) : Option (Value × Heap) :=
 S.b (C 11 [x0] H) fun x15_150 H151 =>
 S.b (extr 0 x15_150 H151) fun x16_152 H153 =>
 S.b (extr 1 x15_150 H153) fun x17_154 H155 =>
 S.b (extr 2 x15_150 H155) fun x18_156 H157 =>
 S.b (up (binB Tryd.prog .eql 25 x18_156 (.int .i64 5)) H157) fun x20_158 H159 =>
 S.i x20_158
 (S.b (up (lenS x0) H159) fun x22_160 H161 =>
  S.b (up (binB Tryd.prog .gtr 3 x22_160 (.int .i64 8192)) H161) fun x23_162 H163 =>
  S.b (gd (wd x23_162 true) (C 15 [] H163) H163) fun x25_164 H165 =>
  S.b (pickV x23_162 x25_164 (.bool false) H165) fun x26_166 H167 =>
  some (x26_166, H167))
 (S.b (up (lenS x0) H159) fun x28_168 H169 =>
  S.b (up (binB Tryd.prog .neq 25 x18_156 (.int .i64 0)) H169) fun x30_170 H171 =>
  S.i x30_170
  (S.b (up (binB Tryd.prog .neq 25 x18_156 (.int .i64 140)) H171) fun x32_172 H173 =>
   S.b (gd (wd x32_172 false) (some (x17_154, H173)) H173) fun x34_174 H175 =>
   S.b (gd (wd x32_172 false) (up (binB Tryd.prog .lss 3 x34_174 (.int .i64 0)) H175) H175) fun x35_176 H177 =>
   S.b (pickV x32_172 (.bool true) x35_176 H177) fun x36_178 H179 =>
   S.b (gd (wd x36_178 false) (some (x17_154, H179)) H179) fun x38_180 H181 =>
   S.b (gd (wd x36_178 false) (some (x0, H181)) H181) fun x39_182 H183 =>
   S.b (gd (wd x36_178 false) (up (lenS x39_182) H183) H183) fun x40_184 H185 =>
   S.b (gd (wd x36_178 false) (up (binB Tryd.prog .geq 3 x38_180 x40_184) H185) H185) fun x41_186 H187 =>
   S.b (pickV x36_178 (.bool true) x41_186 H187) fun x42_188 H189 =>
   S.i x42_188
   (some ((.bool false), H189))
   (S.b (up (slcS 1 x0 none (some x17_154) none) H189) fun x47_190 H191 =>
    S.b (C 11 [x47_190] H191) fun x48_192 H193 =>
    S.b (extr 0 x48_192 H193) fun x49_194 H195 =>
    S.b (extr 1 x48_192 H195) fun x50_196 H197 =>
    S.b (extr 2 x48_192 H197) fun x51_198 H199 =>
    S.b (up (binB Tryd.prog .neq 25 x51_198 (.int .i64 0)) H199) fun x53_200 H201 =>
    S.i x53_200
    (some ((.bool false), H201))
    (P0 (putE 111 (putE 111 (putE 111 (putE 111 (putE 111 (putE 111 (putE 111 (putE 111 (putE 111 (putE 111 (putE 111 (putE 111 (putE 111 (putE 111 (putE 111 (putE 111 (putE 111 (putE 111 (putE 111 (putE 111 (putE 111 (putE 111 (putE 111 (putE 111 (putE 111 (putE 111 (putE 111 (putE 111 (putE 111 (putE 111 (putE 111 (putE 111 (putE 111 (putE 111 (putE 111 (putE 111 (putE 111 (putE 111 (putE 111 (putE 111 (putE 111 (putE 111 (putE 111 (putE 111 (putE 111 (putE 111 (putE 111 (putE 111 (env0 [x0]) (some 2) (.bool false)) (some 14) x0) (some 15) x15_150) (some 13) x15_150) (some 16) x16_152) (some 17) x17_154) (some 18) x18_156) (some 3) x16_152) (some 4) x17_154) (some 5) x18_156) (some 19) x18_156) (some 20) x20_158) (some 27) x0) (some 28) x28_168) (some 6) x28_168) (some 29) x18_156) (some 30) x30_170) (some 31) x18_156) (some 32) x32_172) (some 33) x32_172) (some 34) x34_174) (some 35) x35_176) (some 36) x36_178) (some 37) x36_178) (some 38) x38_180) (some 39) x39_182) (some 40) x40_184) (some 41) x41_186) (some 42) x42_188) (some 43) x17_154) (some 6) x17_154) (some 45) x0) (some 46) x17_154) (some 47) x47_190) (some 48) x48_192) (some 44) x48_192) (some 49) x49_194) (some 50) x50_196) (some 51) x51_198) (some 7) x49_194) (some 8) x50_196) (some 9) x51_198) (some 52) x51_198) (some 53) x53_200) (some 54) x49_194) (some 3) x49_194) (some 10) (.int .i64 0)) (some 11) (.int .i64 0)) H201)))
  (P0 (putE 111 (putE 111 (putE 111 (putE 111 (putE 111 (putE 111 (putE 111 (putE 111 (putE 111 (putE 111 (putE 111 (putE 111 (putE 111 (putE 111 (putE 111 (putE 111 (putE 111 (putE 111 (putE 111 (env0 [x0]) (some 2) (.bool false)) (some 14) x0) (some 15) x15_150) (some 13) x15_150) (some 16) x16_152) (some 17) x17_154) (some 18) x18_156) (some 3) x16_152) (some 4) x17_154) (some 5) x18_156) (some 19) x18_156) (some 20) x20_158) (some 27) x0) (some 28) x28_168) (some 6) x28_168) (some 29) x18_156) (some 30) x30_170) (some 10) (.int .i64 0)) (some 11) (.int .i64 0)) H171))

theorem f4_main (S : Seam (Value × Heap)) (C : CallF) (n : Nat) (x0 : Value) (H : Heap) : acodeK S Tryd.prog C n 111 f4_c (env0 [x0]) H (fin Tryd.prog Tryd.f4) = f4 S C n x0 H := by
  have h1 : acodeK S Tryd.prog C n 111 f4_c (env0 [x0]) H (fin Tryd.prog Tryd.f4) = f4G S C n (fun env H => aloopK (acodeK S Tryd.prog C n 111 (cAt f4_c [1, 1, 1, 1, 1, 1, 0, 1, 0, 0])) n env H (kAt S Tryd.prog C n 111 f4_c [1, 1, 1, 1, 1, 1, 0, 1, 0] (fin Tryd.prog Tryd.f4))) x0 H := by kernel_rfl
  have e0 : (fun env H => aloopK (acodeK S Tryd.prog C n 111 (cAt f4_c [1, 1, 1, 1, 1, 1, 0, 1, 0, 0])) n env H (kAt S Tryd.prog C n 111 f4_c [1, 1, 1, 1, 1, 1, 0, 1, 0] (fin Tryd.prog Tryd.f4))) = (fun env H => f4_L0 S C n n (env 0) (env 3) (env 6) (env 10) (env 11) H) := by funext env H; exact f4_L0_eq S C n n env H
  rw [e0] at h1
  exact h1.trans (by kernel_rfl)


theorem f4_eq {E : Ext} (hE : E 4 = none) (n : Nat) (x0 : Value) (H : Heap) : acall Tryd.prog true E (n + 1) 4 [x0] H = f4 real (acall Tryd.prog true E n) n x0 H :=
  (acall_eq (N := 111) Tryd.func4 (by kernel_rfl) (by kernel_rfl) hE (by kernel_rfl) (by kernel_rfl)).trans (f4_main real _ n x0 H)

/-! incunable/incunablelaw14.WordsSpread -/
noncomputable def f5_c : Code := (Tryd.f5.body).getD .skip

noncomputable def f5 (S : Seam (Value × Heap)) (C : CallF) (n : Nat) (x0 : Value) (x1 : Value) (x2 : Value) (H : Heap) : Option (Value × Heap) :=
 S.b (up (lenS x0) H) fun x18_1 H2 =>
 S.b (minV x18_1 (.int .i64 7000) H2) fun x19_3 H4 =>
 S.b (up (slcS 1 x0 none (some x19_3) none) H4) fun x20_5 H6 =>
 S.b (C 11 [x20_5] H6) fun x21_7 H8 =>
 S.b (extr 0 x21_7 H8) fun x22_9 H10 =>
 S.b (extr 1 x21_7 H10) fun x23_11 H12 =>
 S.b (extr 2 x21_7 H12) fun x24_13 H14 =>
 S.b (up (binB Tryd.prog .neq 25 x24_13 (.int .i64 0)) H14) fun x26_15 H16 =>
 S.b (gd (wd x26_15 false) (some (x22_9, H16)) H16) fun x28_17 H18 =>
 S.b (gd (wd x26_15 false) (up (lenS x28_17) H18) H18) fun x29_19 H20 =>
 S.b (gd (wd x26_15 false) (up (binB Tryd.prog .eql 3 x29_19 (.int .i64 0)) H20) H20) fun x30_21 H22 =>
 S.b (pickV x26_15 (.bool true) x30_21 H22) fun x31_23 H24 =>
 S.i x31_23
 (S.b (C 15 [] H24) fun x32_25 H26 =>
  some (x32_25, H26))
 (S.b (up (lenS x22_9) H24) fun x36_27 H28 =>
  S.b (C 17 [x1, x36_27] H28) fun x37_29 H30 =>
  S.b (up (iAddrS 3 x22_9 x37_29) H30) fun x38_31 H32 =>
  S.b (ldA 3 x38_31 H32) fun x39_33 H34 =>
  S.b (newV [(.int .i64 0), (.int .i64 0), (.int .i64 0)] H34) fun x10_35 H36 =>
  S.b (stV 3 x10_35 x39_33 H36) fun _ H37 =>
  S.b (up (fAddr 2 x10_35) H37) fun x40_38 H39 =>
  S.b (ldC x40_38 H39) fun x41_40 H41 =>
  S.b (up (binB Tryd.prog .lss 3 x41_40 (.int .i64 0)) H41) fun x42_42 H43 =>
  S.b (gd (wd x42_42 false) (up (fAddr 2 x10_35) H43) H43) fun x44_44 H45 =>
  S.b (gd (wd x42_42 false) (ldC x44_44 H45) H45) fun x45_46 H47 =>
  S.b (gd (wd x42_42 false) (some (x0, H47)) H47) fun x46_48 H49 =>
  S.b (gd (wd x42_42 false) (up (lenS x46_48) H49) H49) fun x47_50 H51 =>
  S.b (gd (wd x42_42 false) (up (binB Tryd.prog .gtr 3 x45_46 x47_50) H51) H51) fun x48_52 H53 =>
  S.b (pickV x42_42 (.bool true) x48_52 H53) fun x49_54 H55 =>
  S.i x49_54
  (some ((.bool false), H55))
  (S.b (up (fAddr 2 x10_35) H55) fun x52_56 H57 =>
   S.b (ldC x52_56 H57) fun x53_58 H59 =>
   S.b (up (slcS 1 x0 none (some x53_58) none) H59) fun x54_60 H61 =>
   S.b (app 1 1 (.slice none 0 0) x54_60 H61) fun x55_62 H63 =>
   S.b (bldS 1 5 [(.string ⟨#[]⟩)] [(0, 1, (.string ⟨#[32]⟩)), (1, 1, (.string ⟨#[10, 10]⟩)), (2, 1, (.string ⟨#[9]⟩)), (3, 1, (.string ⟨#[35, 32, 114, 101, 109, 97, 114, 107, 32, 59, 10]⟩)), (4, 1, (.string ⟨#[13]⟩))] H63) fun x57_64 H65 =>
   S.b (C 17 [x2, (.int .i64 5)] H65) fun x59_66 H67 =>
   S.b (up (iAddrS 1 x57_64 x59_66) H67) fun x60_68 H69 =>
   S.b (ldC x60_68 H69) fun x61_70 H71 =>
   S.b (app 1 1 x55_62 x61_70 H71) fun x62_72 H73 =>
   S.b (up (fAddr 2 x10_35) H73) fun x65_74 H75 =>
   S.b (ldC x65_74 H75) fun x66_76 H77 =>
   S.b (up (lenS x0) H77) fun x68_78 H79 =>
   S.b (minV x68_78 (.int .i64 7000) H79) fun x69_80 H81 =>
   S.b (up (slcS 1 x0 (some x66_76) (some x69_80) none) H81) fun x70_82 H83 =>
   S.b (app 1 1 x62_72 x70_82 H83) fun x71_84 H85 =>
   S.b (C 11 [x71_84] H85) fun x74_86 H87 =>
   S.b (extr 0 x74_86 H87) fun x75_88 H89 =>
   S.b (extr 1 x74_86 H89) fun x76_90 H91 =>
   S.b (extr 2 x74_86 H91) fun x77_92 H93 =>
   S.b (up (binB Tryd.prog .eql 25 x77_92 (.int .i64 0)) H93) fun x79_94 H95 =>
   S.b (gd (wd x79_94 true) (some (x22_9, H95)) H95) fun x81_96 H97 =>
   S.b (gd (wd x79_94 true) (C 19 [x81_96] H97) H97) fun x82_98 H99 =>
   S.b (gd (wd x79_94 true) (some (x75_88, H99)) H99) fun x83_100 H101 =>
   S.b (gd (wd x79_94 true) (C 19 [x83_100] H101) H101) fun x84_102 H103 =>
   S.b (gd (wd x79_94 true) (C 18 [x82_98, x84_102] H103) H103) fun x85_104 H105 =>
   S.b (pickV x79_94 x85_104 (.bool false) H105) fun x86_106 H107 =>
   S.b (gd (wd x86_106 true) (C 15 [] H107) H107) fun x88_108 H109 =>
   S.b (pickV x86_106 x88_108 (.bool false) H109) fun x89_110 H111 =>
   some (x89_110, H111)))

theorem f5_main (S : Seam (Value × Heap)) (C : CallF) (n : Nat) (x0 : Value) (x1 : Value) (x2 : Value) (H : Heap) : acodeK S Tryd.prog C n 90 f5_c (env0 [x0, x1, x2]) H (fin Tryd.prog Tryd.f5) = f5 S C n x0 x1 x2 H := by
  kernel_rfl


theorem f5_eq {E : Ext} (hE : E 5 = none) (n : Nat) (x0 : Value) (x1 : Value) (x2 : Value) (H : Heap) : acall Tryd.prog true E (n + 1) 5 [x0, x1, x2] H = f5 real (acall Tryd.prog true E n) n x0 x1 x2 H :=
  (acall_eq (N := 90) Tryd.func5 (by kernel_rfl) (by kernel_rfl) hE (by kernel_rfl) (by kernel_rfl)).trans (f5_main real _ n x0 x1 x2 H)

/-! incunable/incunablelaw14.WordsMay -/
noncomputable def f6_c : Code := (Tryd.f6.body).getD .skip

noncomputable def f6 (S : Seam (Value × Heap)) (C : CallF) (n : Nat) (x0 : Value) (x1 : Value) (H : Heap) : Option (Value × Heap) :=
 S.b (C 20 [x0] H) fun x6_1 H2 =>
 S.b (C 21 [x0] H2) fun x8_3 H4 =>
 S.b (up (binB Tryd.prog .eql 4 x6_1 x8_3) H4) fun x9_5 H6 =>
 S.b (gd (wd x9_5 true) (some (x0, H6)) H6) fun x11_7 H8 =>
 S.b (gd (wd x9_5 true) (C 22 [x11_7] H8) H8) fun x12_9 H10 =>
 S.b (gd (wd x9_5 true) (some (x0, H10)) H10) fun x13_11 H12 =>
 S.b (gd (wd x9_5 true) (C 23 [x13_11] H12) H12) fun x14_13 H14 =>
 S.b (gd (wd x9_5 true) (up (binB Tryd.prog .eql 4 x12_9 x14_13) H14) H14) fun x15_15 H16 =>
 S.b (pickV x9_5 x15_15 (.bool false) H16) fun x16_17 H18 =>
 S.b (gd (wd x16_17 true) (some (x0, H18)) H18) fun x18_19 H20 =>
 S.b (gd (wd x16_17 true) (C 24 [x18_19] H20) H20) fun x19_21 H22 =>
 S.b (gd (wd x16_17 true) (some (x0, H22)) H22) fun x20_23 H24 =>
 S.b (gd (wd x16_17 true) (C 25 [x20_23] H24) H24) fun x21_25 H26 =>
 S.b (gd (wd x16_17 true) (up (binB Tryd.prog .eql 4 x19_21 x21_25) H26) H26) fun x22_27 H28 =>
 S.b (pickV x16_17 x22_27 (.bool false) H28) fun x23_29 H30 =>
 S.b (gd (wd x23_29 true) (some (x1, H30)) H30) fun x25_31 H32 =>
 S.b (gd (wd x23_29 true) (C 26 [x25_31] H32) H32) fun x26_33 H34 =>
 S.b (gd (wd x23_29 true) (some (x1, H34)) H34) fun x27_35 H36 =>
 S.b (gd (wd x23_29 true) (C 27 [x27_35] H36) H36) fun x28_37 H38 =>
 S.b (gd (wd x23_29 true) (up (binB Tryd.prog .eql 9 x26_33 x28_37) H38) H38) fun x29_39 H40 =>
 S.b (pickV x23_29 x29_39 (.bool false) H40) fun x30_41 H42 =>
 S.b (gd (wd x30_41 true) (C 15 [] H42) H42) fun x32_43 H44 =>
 S.b (pickV x30_41 x32_43 (.bool false) H44) fun x33_45 H46 =>
 some (x33_45, H46)

theorem f6_main (S : Seam (Value × Heap)) (C : CallF) (n : Nat) (x0 : Value) (x1 : Value) (H : Heap) : acodeK S Tryd.prog C n 34 f6_c (env0 [x0, x1]) H (fin Tryd.prog Tryd.f6) = f6 S C n x0 x1 H := by
  kernel_rfl


theorem f6_eq {E : Ext} (hE : E 6 = none) (n : Nat) (x0 : Value) (x1 : Value) (H : Heap) : acall Tryd.prog true E (n + 1) 6 [x0, x1] H = f6 real (acall Tryd.prog true E n) n x0 x1 H :=
  (acall_eq (N := 34) Tryd.func6 (by kernel_rfl) (by kernel_rfl) hE (by kernel_rfl) (by kernel_rfl)).trans (f6_main real _ n x0 x1 H)

/-! incunable/incunablelaw14.WordsAlone -/
noncomputable def f7_c : Code := (Tryd.f7.body).getD .skip

noncomputable def f7 (S : Seam (Value × Heap)) (C : CallF) (n : Nat) (x0 : Value) (x1 : Value) (H : Heap) : Option (Value × Heap) :=
 S.b (C 11 [x0] H) fun x15_1 H2 =>
 S.b (extr 0 x15_1 H2) fun x16_3 H4 =>
 S.b (extr 1 x15_1 H4) fun x17_5 H6 =>
 S.b (extr 2 x15_1 H6) fun x18_7 H8 =>
 S.b (up (binB Tryd.prog .neq 25 x18_7 (.int .i64 0)) H8) fun x20_9 H10 =>
 S.b (gd (wd x20_9 false) (some (x16_3, H10)) H10) fun x22_11 H12 =>
 S.b (gd (wd x20_9 false) (up (lenS x22_11) H12) H12) fun x23_13 H14 =>
 S.b (gd (wd x20_9 false) (up (binB Tryd.prog .eql 3 x23_13 (.int .i64 0)) H14) H14) fun x24_15 H16 =>
 S.b (pickV x20_9 (.bool true) x24_15 H16) fun x25_17 H18 =>
 S.i x25_17
 (S.b (C 15 [] H18) fun x26_19 H20 =>
  some (x26_19, H20))
 (S.b (up (lenS x16_3) H18) fun x30_21 H22 =>
  S.b (C 17 [x1, x30_21] H22) fun x31_23 H24 =>
  S.b (up (iAddrS 3 x16_3 x31_23) H24) fun x32_25 H26 =>
  S.b (ldA 3 x32_25 H26) fun x33_27 H28 =>
  S.b (newV [(.int .i64 0), (.int .i64 0), (.int .i64 0)] H28) fun x8_29 H30 =>
  S.b (stV 3 x8_29 x33_27 H30) fun _ H31 =>
  S.b (up (fAddr 1 x8_29) H31) fun x34_32 H33 =>
  S.b (ldC x34_32 H33) fun x35_34 H35 =>
  S.b (up (binB Tryd.prog .lss 3 x35_34 (.int .i64 0)) H35) fun x36_36 H37 =>
  S.b (gd (wd x36_36 false) (up (fAddr 2 x8_29) H37) H37) fun x38_38 H39 =>
  S.b (gd (wd x36_36 false) (ldC x38_38 H39) H39) fun x39_40 H41 =>
  S.b (gd (wd x36_36 false) (some (x0, H41)) H41) fun x40_42 H43 =>
  S.b (gd (wd x36_36 false) (up (lenS x40_42) H43) H43) fun x41_44 H45 =>
  S.b (gd (wd x36_36 false) (up (binB Tryd.prog .gtr 3 x39_40 x41_44) H45) H45) fun x42_46 H47 =>
  S.b (pickV x36_36 (.bool true) x42_46 H47) fun x43_48 H49 =>
  S.b (gd (wd x43_48 false) (up (fAddr 2 x8_29) H49) H49) fun x45_50 H51 =>
  S.b (gd (wd x43_48 false) (ldC x45_50 H51) H51) fun x46_52 H53 =>
  S.b (gd (wd x43_48 false) (up (fAddr 1 x8_29) H53) H53) fun x47_54 H55 =>
  S.b (gd (wd x43_48 false) (ldC x47_54 H55) H55) fun x48_56 H57 =>
  S.b (gd (wd x43_48 false) (up (binB Tryd.prog .leq 3 x46_52 x48_56) H57) H57) fun x49_58 H59 =>
  S.b (pickV x43_48 (.bool true) x49_58 H59) fun x50_60 H61 =>
  S.i x50_60
  (some ((.bool false), H61))
  (S.b (up (fAddr 1 x8_29) H61) fun x52_62 H63 =>
   S.b (ldC x52_62 H63) fun x53_64 H65 =>
   S.b (up (fAddr 2 x8_29) H65) fun x54_66 H67 =>
   S.b (ldC x54_66 H67) fun x55_68 H69 =>
   S.b (up (slcS 1 x0 (some x53_64) (some x55_68) none) H69) fun x56_70 H71 =>
   S.b (toStr x56_70 H71) fun x57_72 H73 =>
   S.b (ofStr x57_72 H73) fun x60_74 H75 =>
   S.b (C 11 [x60_74] H75) fun x61_76 H77 =>
   S.b (extr 0 x61_76 H77) fun x62_78 H79 =>
   S.b (extr 1 x61_76 H79) fun x63_80 H81 =>
   S.b (extr 2 x61_76 H81) fun x64_82 H83 =>
   S.b (up (binB Tryd.prog .neq 25 x64_82 (.int .i64 0)) H83) fun x66_84 H85 =>
   S.b (gd (wd x66_84 false) (some (x62_78, H85)) H85) fun x68_86 H87 =>
   S.b (gd (wd x66_84 false) (up (lenS x68_86) H87) H87) fun x69_88 H89 =>
   S.b (gd (wd x66_84 false) (up (binB Tryd.prog .neq 3 x69_88 (.int .i64 1)) H89) H89) fun x70_90 H91 =>
   S.b (pickV x66_84 (.bool true) x70_90 H91) fun x71_92 H93 =>
   S.b (gd (wd x71_92 false) (some (x62_78, H93)) H93) fun x73_94 H95 =>
   S.b (gd (wd x71_92 false) (up (iAddrS 3 x73_94 (.int .i64 0)) H95) H95) fun x74_96 H97 =>
   S.c (!(wd x71_92 false) || true) (S.b (gd (wd x71_92 false) (ldA 3 x74_96 H97) H97) fun x75_98 H99 =>
   S.b (gd (wd x71_92 false) (up (fAddr 0 x8_29) H99) H99) fun x76_100 H101 =>
   S.c (!(wd x71_92 false) || true) (S.b (gd (wd x71_92 false) (ldC x76_100 H101) H101) fun x77_102 H103 =>
   S.b (gd (wd x71_92 false) (some (x57_72, H103)) H103) fun x78_104 H105 =>
   S.b (gd (wd x71_92 false) (up (lenStr x78_104) H105) H105) fun x79_106 H107 =>
   S.b (gd (wd x71_92 false) (bld [(.int .i64 0), (.int .i64 0), (.int .i64 0)] [(0, 1, x77_102), (1, 1, (.int .i64 0)), (2, 1, x79_106)] H107) H107) fun x80_108 H109 =>
   S.b (gd (wd x71_92 false) (up (binB Tryd.prog .neq 33 x75_98 x80_108) H109) H109) fun x81_110 H111 =>
   S.b (pickV x71_92 (.bool true) x81_110 H111) fun x82_112 H113 =>
   S.i x82_112
   (some ((.bool false), H113))
   (S.b (up (fAddr 0 x8_29) H113) fun x84_114 H115 =>
    S.b (ldC x84_114 H115) fun x85_116 H117 =>
    S.b (up (binB Tryd.prog .eql 3 x85_116 (.int .i64 1)) H117) fun x86_118 H119 =>
    S.i x86_118
    (S.b (C 20 [x57_72] H119) fun x88_120 H121 =>
     S.b (gd (wd x88_120 true) (C 15 [] H121) H121) fun x90_122 H123 =>
     S.b (pickV x88_120 x90_122 (.bool false) H123) fun x91_124 H125 =>
     some (x91_124, H125))
    (S.b (up (fAddr 0 x8_29) H119) fun x93_126 H127 =>
     S.b (ldC x93_126 H127) fun x94_128 H129 =>
     S.b (up (binB Tryd.prog .eql 3 x94_128 (.int .i64 2)) H129) fun x95_130 H131 =>
     S.i x95_130
     (S.b (up (lenStr x57_72) H131) fun x97_132 H133 =>
      S.b (up (binB Tryd.prog .gtr 3 x97_132 (.int .i64 2)) H133) fun x98_134 H135 =>
      S.b (gd (wd x98_134 true) (some (x57_72, H135)) H135) fun x100_136 H137 =>
      S.b (gd (wd x98_134 true) (some (x57_72, H137)) H137) fun x101_138 H139 =>
      S.b (gd (wd x98_134 true) (up (lenStr x101_138) H139) H139) fun x102_140 H141 =>
      S.b (gd (wd x98_134 true) (up (binB Tryd.prog .sub 3 x102_140 (.int .i64 1)) H141) H141) fun x103_142 H143 =>
      S.b (gd (wd x98_134 true) (up (slcStr x100_136 (some (.int .i64 1)) (some x103_142)) H143) H143) fun x104_144 H145 =>
      S.b (gd (wd x98_134 true) (C 22 [x104_144] H145) H145) fun x105_146 H147 =>
      S.b (pickV x98_134 x105_146 (.bool false) H147) fun x106_148 H149 =>
      S.b (gd (wd x106_148 true) (C 15 [] H149) H149) fun x108_150 H151 =>
      S.b (pickV x106_148 x108_150 (.bool false) H151) fun x109_152 H153 =>
      some (x109_152, H153))
     (S.b (up (fAddr 0 x8_29) H131) fun x111_154 H155 =>
      S.b (ldC x111_154 H155) fun x112_156 H157 =>
      S.b (up (binB Tryd.prog .eql 3 x112_156 (.int .i64 3)) H157) fun x113_158 H159 =>
      S.i x113_158
      (S.b (up (lenStr x57_72) H159) fun x115_160 H161 =>
       S.b (up (binB Tryd.prog .gtr 3 x115_160 (.int .i64 1)) H161) fun x116_162 H163 =>
       S.b (gd (wd x116_162 true) (some (x57_72, H163)) H163) fun x118_164 H165 =>
       S.b (gd (wd x116_162 true) (some (x57_72, H165)) H165) fun x119_166 H167 =>
       S.b (gd (wd x116_162 true) (up (lenStr x119_166) H167) H167) fun x120_168 H169 =>
       S.b (gd (wd x116_162 true) (up (binB Tryd.prog .sub 3 x120_168 (.int .i64 1)) H169) H169) fun x121_170 H171 =>
       S.b (gd (wd x116_162 true) (up (slcStr x118_164 (some (.int .i64 1)) (some x121_170)) H171) H171) fun x122_172 H173 =>
       S.b (gd (wd x116_162 true) (C 24 [x122_172] H173) H173) fun x123_174 H175 =>
       S.b (pickV x116_162 x123_174 (.bool false) H175) fun x124_176 H177 =>
       S.b (gd (wd x124_176 true) (C 15 [] H177) H177) fun x126_178 H179 =>
       S.b (pickV x124_176 x126_178 (.bool false) H179) fun x127_180 H181 =>
       some (x127_180, H181))
      (S.b (up (fAddr 0 x8_29) H159) fun x129_182 H183 =>
       S.b (ldC x129_182 H183) fun x130_184 H185 =>
       S.b (up (binB Tryd.prog .eql 3 x130_184 (.int .i64 4)) H185) fun x131_186 H187 =>
       S.i x131_186
       (S.b (up (lenStr x57_72) H187) fun x133_188 H189 =>
        S.b (up (binB Tryd.prog .eql 3 x133_188 (.int .i64 1)) H189) fun x134_190 H191 =>
        S.b (gd (wd x134_190 true) (C 15 [] H191) H191) fun x136_192 H193 =>
        S.b (pickV x134_190 x136_192 (.bool false) H193) fun x137_194 H195 =>
        some (x137_194, H195))
       (S.b (up (fAddr 0 x8_29) H187) fun x138_196 H197 =>
        S.b (ldC x138_196 H197) fun x139_198 H199 =>
        S.b (C 26 [x139_198] H199) fun x140_200 H201 =>
        S.b (up (binB Tryd.prog .eql 9 x140_200 x57_72) H201) fun x142_202 H203 =>
        S.b (gd (wd x142_202 true) (some (x57_72, H203)) H203) fun x144_204 H205 =>
        S.b (gd (wd x142_202 true) (C 20 [x144_204] H205) H205) fun x145_206 H207 =>
        S.b (gd (wd x142_202 true) (up (unB .not x145_206) H207) H207) fun x146_208 H209 =>
        S.b (pickV x142_202 x146_208 (.bool false) H209) fun x147_210 H211 =>
        S.b (gd (wd x147_210 true) (C 15 [] H211) H211) fun x149_212 H213 =>
        S.b (pickV x147_210 x149_212 (.bool false) H213) fun x150_214 H215 =>
        some (x150_214, H215))))))))))

theorem f7_main (S : Seam (Value × Heap)) (C : CallF) (n : Nat) (x0 : Value) (x1 : Value) (H : Heap) : acodeK S Tryd.prog C n 151 f7_c (env0 [x0, x1]) H (fin Tryd.prog Tryd.f7) = f7 S C n x0 x1 H := by
  kernel_rfl


theorem f7_eq {E : Ext} (hE : E 7 = none) (n : Nat) (x0 : Value) (x1 : Value) (H : Heap) : acall Tryd.prog true E (n + 1) 7 [x0, x1] H = f7 real (acall Tryd.prog true E n) n x0 x1 H :=
  (acall_eq (N := 151) Tryd.func7 (by kernel_rfl) (by kernel_rfl) hE (by kernel_rfl) (by kernel_rfl)).trans (f7_main real _ n x0 x1 H)

/-! incunable/incunablelaw14.WordsJoin -/
noncomputable def f8_c : Code := (Tryd.f8.body).getD .skip

noncomputable def f8_J1 (S : Seam (Value × Heap)) (C : CallF) (n : Nat) (R0 : Value→Value→Value→Value→Value→Heap→Option (Value × Heap)) (x0_33 x1_34 x5_35 x6_36 x7_37 x8_38 : Value) (H39 : Heap) : Option (Value × Heap) :=
 S.b (up (lenStr x8_38) H39) fun x39_40 H41 =>
 S.b (minV x39_40 (.int .i64 40) H41) fun x40_42 H43 =>
 S.b (up (slcStr x8_38 none (some x40_42)) H43) fun x41_44 H45 =>
 S.b (up (iAddrS 1 x0_33 x7_37) H45) fun x45_46 H47 =>
 S.b (ldC x45_46 H47) fun x46_48 H49 =>
 S.b (C 28 [x46_48, x41_44] H49) fun x48_50 H51 =>
 S.b (extr 0 x48_50 H51) fun x49_52 H53 =>
 S.b (extr 1 x48_50 H53) fun x50_54 H55 =>
 S.b (up (lenS x5_35) H55) fun x54_56 H57 =>
 S.b (up (lenS x5_35) H57) fun x56_58 H59 =>
 S.b (up (lenStr x49_52) H59) fun x58_60 H61 =>
 S.b (up (binB Tryd.prog .add 3 x56_58 x58_60) H61) fun x59_62 H63 =>
 S.b (bld [(.int .i64 0), (.int .i64 0), (.int .i64 0)] [(0, 1, x50_54), (1, 1, x54_56), (2, 1, x59_62)] H63) fun x60_64 H65 =>
 S.b (bldS 3 1 [(.int .i64 0), (.int .i64 0), (.int .i64 0)] [(0, 3, x60_64)] H65) fun x61_66 H67 =>
 S.b (app 3 24 x6_36 x61_66 H67) fun x62_68 H69 =>
 S.b (bldS 1 5 [(.string ⟨#[]⟩)] [(0, 1, (.string ⟨#[32]⟩)), (1, 1, (.string ⟨#[9]⟩)), (2, 1, (.string ⟨#[10]⟩)), (3, 1, (.string ⟨#[13, 10]⟩)), (4, 1, (.string ⟨#[32, 35, 32, 61, 32, 34, 32, 47, 10]⟩))] H69) fun x65_70 H71 =>
 S.b (up (iAddrS 1 x0_33 x7_37) H71) fun x68_72 H73 =>
 S.b (ldC x68_72 H73) fun x69_74 H75 =>
 S.b (C 17 [x69_74, (.int .i64 5)] H75) fun x70_76 H77 =>
 S.b (up (iAddrS 1 x65_70 x70_76) H77) fun x71_78 H79 =>
 S.b (ldC x71_78 H79) fun x72_80 H81 =>
 S.b (up (binB Tryd.prog .add 9 x49_52 x72_80) H81) fun x73_82 H83 =>
 S.b (app 1 1 x5_35 x73_82 H83) fun x74_84 H85 =>
 S.b (up (binB Tryd.prog .add 3 x7_37 (.int .i64 1)) H85) fun x23_86 H87 =>
 R0 x0_33 x1_34 x74_84 x62_68 x23_86 H87

noncomputable def f8_L0 (S : Seam (Value × Heap)) (C : CallF) (n : Nat) : Nat → Value → Value → Value → Value → Value → Heap → Option (Value × Heap)
 | 0, _, _, _, _, _, _ => none
 | m + 1, x0_1, x1_2, x5_3, x6_4, x7_5, H6 =>
   S.b (up (lenS x0_1) H6) fun x16_7 H8 =>
   S.b (up (binB Tryd.prog .lss 3 x7_5 x16_7) H8) fun x17_9 H10 =>
   S.b (gd (wd x17_9 true) (some (x7_5, H10)) H10) fun x19_11 H12 =>
   S.b (gd (wd x17_9 true) (up (binB Tryd.prog .lss 3 x19_11 (.int .i64 100)) H12) H12) fun x20_13 H14 =>
   S.b (pickV x17_9 x20_13 (.bool false) H14) fun x21_15 H16 =>
   S.i x21_15
   (S.b (up (lenS x1_2) H16) fun x25_17 H18 =>
    S.b (up (binB Tryd.prog .gtr 3 x25_17 (.int .i64 0)) H18) fun x26_19 H20 =>
    S.i x26_19
    (S.b (up (iAddrS 1 x0_1 x7_5) H20) fun x30_21 H22 =>
     S.b (ldC x30_21 H22) fun x31_23 H24 =>
     S.b (up (lenS x1_2) H24) fun x33_25 H26 =>
     S.b (C 17 [x31_23, x33_25] H26) fun x34_27 H28 =>
     S.b (up (iAddrS 1 x1_2 x34_27) H28) fun x35_29 H30 =>
     S.b (ldC x35_29 H30) fun x36_31 H32 =>
     f8_J1 S C n (f8_L0 S C n m) x0_1 x1_2 x5_3 x6_4 x7_5 x36_31 H32)
    (f8_J1 S C n (f8_L0 S C n m) x0_1 x1_2 x5_3 x6_4 x7_5 (.string ⟨#[]⟩) H20))
   (S.b (C 11 [x5_3] H16) fun x77_88 H89 =>
    S.b (extr 0 x77_88 H89) fun x78_90 H91 =>
    S.b (extr 1 x77_88 H91) fun x79_92 H93 =>
    S.b (extr 2 x77_88 H93) fun x80_94 H95 =>
    S.b (up (binB Tryd.prog .eql 25 x80_94 (.int .i64 0)) H95) fun x82_96 H97 =>
    S.b (gd (wd x82_96 true) (some (x79_92, H97)) H97) fun x84_98 H99 =>
    S.b (gd (wd x82_96 true) (up (binB Tryd.prog .eql 3 x84_98 (.int .i64 0)) H99) H99) fun x85_100 H101 =>
    S.b (pickV x82_96 x85_100 (.bool false) H101) fun x86_102 H103 =>
    S.b (gd (wd x86_102 true) (some (x78_90, H103)) H103) fun x88_104 H105 =>
    S.b (gd (wd x86_102 true) (some (x6_4, H105)) H105) fun x89_106 H107 =>
    S.b (gd (wd x86_102 true) (C 13 [x88_104, x89_106] H107) H107) fun x90_108 H109 =>
    S.b (pickV x86_102 x90_108 (.bool false) H109) fun x91_110 H111 =>
    S.b (gd (wd x91_110 true) (C 15 [] H111) H111) fun x93_112 H113 =>
    S.b (pickV x91_110 x93_112 (.bool false) H113) fun x94_114 H115 =>
    some (x94_114, H115))

theorem f8_L0_eq (S : Seam (Value × Heap)) (C : CallF) (n : Nat) : ∀ (m : Nat) (env : Env) (H : Heap), aloopK (acodeK S Tryd.prog C n 95 (cAt f8_c [1, 1, 1, 0, 1, 0, 0])) m env H (kAt S Tryd.prog C n 95 f8_c [1, 1, 1, 0, 1, 0] (fin Tryd.prog Tryd.f8)) = f8_L0 S C n m (env 0) (env 1) (env 5) (env 6) (env 7) H := by
  intro m env H
  refine aloopK_eq (L := fun m env H => f8_L0 S C n m (env 0) (env 1) (env 5) (env 6) (env 7) H) (fun env H => rfl) (fun m env H => ?_) m env H
  kernel_rfl


noncomputable def f8 (S : Seam (Value × Heap)) (C : CallF) (n : Nat) (x0 : Value) (x1 : Value) (H : Heap) : Option (Value × Heap) :=
 f8_L0 S C n n x0 x1 (.slice none 0 0) (.slice none 0 0) (.int .i64 0) H

noncomputable def f8G (S : Seam (Value × Heap)) (C : CallF) (n : Nat) (P0 : Env → Heap → Option (Value × Heap)) (x0 : Value) (x1 : Value) (H : Heap) : Option (Value × Heap) :=
 P0 (putE 95 (putE 95 (putE 95 (putE 95 (env0 [x0, x1]) (some 4) (.bool false)) (some 5) (.slice none 0 0)) (some 6) (.slice none 0 0)) (some 7) (.int .i64 0)) H

theorem f8_main (S : Seam (Value × Heap)) (C : CallF) (n : Nat) (x0 : Value) (x1 : Value) (H : Heap) : acodeK S Tryd.prog C n 95 f8_c (env0 [x0, x1]) H (fin Tryd.prog Tryd.f8) = f8 S C n x0 x1 H := by
  have h1 : acodeK S Tryd.prog C n 95 f8_c (env0 [x0, x1]) H (fin Tryd.prog Tryd.f8) = f8G S C n (fun env H => aloopK (acodeK S Tryd.prog C n 95 (cAt f8_c [1, 1, 1, 0, 1, 0, 0])) n env H (kAt S Tryd.prog C n 95 f8_c [1, 1, 1, 0, 1, 0] (fin Tryd.prog Tryd.f8))) x0 x1 H := by kernel_rfl
  have e0 : (fun env H => aloopK (acodeK S Tryd.prog C n 95 (cAt f8_c [1, 1, 1, 0, 1, 0, 0])) n env H (kAt S Tryd.prog C n 95 f8_c [1, 1, 1, 0, 1, 0] (fin Tryd.prog Tryd.f8))) = (fun env H => f8_L0 S C n n (env 0) (env 1) (env 5) (env 6) (env 7) H) := by funext env H; exact f8_L0_eq S C n n env H
  rw [e0] at h1
  exact h1.trans (by kernel_rfl)


theorem f8_eq {E : Ext} (hE : E 8 = none) (n : Nat) (x0 : Value) (x1 : Value) (H : Heap) : acall Tryd.prog true E (n + 1) 8 [x0, x1] H = f8 real (acall Tryd.prog true E n) n x0 x1 H :=
  (acall_eq (N := 95) Tryd.func8 (by kernel_rfl) (by kernel_rfl) hE (by kernel_rfl) (by kernel_rfl)).trans (f8_main real _ n x0 x1 H)

/-! incunable/incunablelaw14.WordsKnown -/
noncomputable def f9_c : Code := (Tryd.f9.body).getD .skip

noncomputable def f9_L1 (S : Seam (Value × Heap)) (C : CallF) (n : Nat) (R0 : Value→Value→Heap→Option (Value × Heap)) : Nat → Value → Value → Value → Heap → Option (Value × Heap)
 | 0, _, _, _, _ => none
 | m + 1, x2_18, x3_19, x4_20, H21 =>
   S.b (up (binB Tryd.prog .lss 3 x4_20 (.int .i64 4)) H21) fun x27_22 H23 =>
   S.i x27_22
   (S.b (up (iAddrS 1 x2_18 x3_19) H23) fun x32_24 H25 =>
    S.c true (S.b (ldC x32_24 H25) fun x33_26 H27 =>
    S.b (up (iAddrS 1 x2_18 x3_19) H27) fun x36_28 H29 =>
    S.c true (S.b (ldC x36_28 H29) fun x37_30 H31 =>
    S.b (up (binB Tryd.prog .add 9 (.string ⟨#[34]⟩) x37_30) H31) fun x38_32 H33 =>
    S.b (up (binB Tryd.prog .add 9 x38_32 (.string ⟨#[34]⟩)) H33) fun x39_34 H35 =>
    S.b (up (iAddrS 1 x2_18 x3_19) H35) fun x42_36 H37 =>
    S.c true (S.b (ldC x42_36 H37) fun x43_38 H39 =>
    S.b (up (binB Tryd.prog .add 9 (.string ⟨#[47]⟩) x43_38) H39) fun x44_40 H41 =>
    S.b (up (binB Tryd.prog .add 9 x44_40 (.string ⟨#[47]⟩)) H41) fun x45_42 H43 =>
    S.b (up (iAddrS 1 x2_18 x3_19) H43) fun x48_44 H45 =>
    S.c true (S.b (ldC x48_44 H45) fun x49_46 H47 =>
    S.b (up (binB Tryd.prog .add 9 (.string ⟨#[120, 61]⟩) x49_46) H47) fun x50_48 H49 =>
    S.b (up (binB Tryd.prog .add 9 x50_48 (.string ⟨#[59, 35]⟩)) H49) fun x51_50 H51 =>
    S.b (bldS 1 4 [(.string ⟨#[]⟩)] [(0, 1, x33_26), (1, 1, x39_34), (2, 1, x45_42), (3, 1, x51_50)] H51) fun x52_52 H53 =>
    S.b (up (iAddrS 1 x52_52 x4_20) H53) fun x54_54 H55 =>
    S.c true (S.b (ldC x54_54 H55) fun x55_56 H57 =>
    S.b (up (binB Tryd.prog .sub 3 x3_19 (.int .i64 8)) H57) fun x58_58 H59 =>
    S.b (C 6 [x55_56, x58_58] H59) fun x59_60 H61 =>
    S.b (up (unB .not x59_60) H61) fun x60_62 H63 =>
    S.b (gd (wd x60_62 false) (some (x55_56, H63)) H63) fun x62_64 H65 =>
    S.b (gd (wd x60_62 false) (ofStr x62_64 H65) H65) fun x63_66 H67 =>
    S.b (gd (wd x60_62 false) (C 3 [x63_66] H67) H67) fun x64_68 H69 =>
    S.b (gd (wd x60_62 false) (up (unB .not x64_68) H69) H69) fun x65_70 H71 =>
    S.b (pickV x60_62 (.bool true) x65_70 H71) fun x66_72 H73 =>
    S.b (gd (wd x66_72 false) (some (x55_56, H73)) H73) fun x68_74 H75 =>
    S.b (gd (wd x66_72 false) (ofStr x68_74 H75) H75) fun x69_76 H77 =>
    S.b (gd (wd x66_72 false) (C 4 [x69_76] H77) H77) fun x70_78 H79 =>
    S.b (gd (wd x66_72 false) (up (unB .not x70_78) H79) H79) fun x71_80 H81 =>
    S.b (pickV x66_72 (.bool true) x71_80 H81) fun x72_82 H83 =>
    S.b (gd (wd x72_82 false) (some (x55_56, H83)) H83) fun x74_84 H85 =>
    S.b (gd (wd x72_82 false) (up (binB Tryd.prog .add 9 x74_84 (.string ⟨#[32, 97]⟩)) H85) H85) fun x75_86 H87 =>
    S.b (gd (wd x72_82 false) (ofStr x75_86 H87) H87) fun x76_88 H89 =>
    S.b (gd (wd x72_82 false) (C 3 [x76_88] H89) H89) fun x77_90 H91 =>
    S.b (gd (wd x72_82 false) (up (unB .not x77_90) H91) H91) fun x78_92 H93 =>
    S.b (pickV x72_82 (.bool true) x78_92 H93) fun x79_94 H95 =>
    S.b (gd (wd x79_94 false) (some (x55_56, H95)) H95) fun x81_96 H97 =>
    S.b (gd (wd x79_94 false) (some (x2_18, H97)) H97) fun x82_98 H99 =>
    S.b (gd (wd x79_94 false) (some (x3_19, H99)) H99) fun x83_100 H101 =>
    S.b (gd (wd x79_94 false) (up (binB Tryd.prog .add 3 x83_100 (.int .i64 1)) H101) H101) fun x84_102 H103 =>
    S.b (gd (wd x79_94 false) (some (x2_18, H103)) H103) fun x85_104 H105 =>
    S.b (gd (wd x79_94 false) (up (lenS x85_104) H105) H105) fun x86_106 H107 =>
    S.b (gd (wd x79_94 false) (up (binB Tryd.prog .rem 3 x84_102 x86_106) H107) H107) fun x87_108 H109 =>
    S.b (gd (wd x79_94 false) (up (iAddrS 1 x82_98 x87_108) H109) H109) fun x88_110 H111 =>
    S.b (gd (wd x79_94 false) (ldC x88_110 H111) H111) fun x89_112 H113 =>
    S.b (gd (wd x79_94 false) (up (binB Tryd.prog .add 9 x81_96 x89_112) H113) H113) fun x90_114 H115 =>
    S.b (gd (wd x79_94 false) (ofStr x90_114 H115) H115) fun x91_116 H117 =>
    S.b (gd (wd x79_94 false) (C 3 [x91_116] H117) H117) fun x92_118 H119 =>
    S.b (gd (wd x79_94 false) (up (unB .not x92_118) H119) H119) fun x93_120 H121 =>
    S.b (pickV x79_94 (.bool true) x93_120 H121) fun x94_122 H123 =>
    S.i x94_122
    (some ((.bool false), H123))
    (S.b (up (binB Tryd.prog .add 3 x4_20 (.int .i64 1)) H123) fun x29_124 H125 =>
     f9_L1 S C n R0 m x2_18 x3_19 x29_124 H125)))))))
   (S.b (up (binB Tryd.prog .add 3 x3_19 (.int .i64 1)) H23) fun x25_126 H127 =>
    R0 x2_18 x25_126 H127)

theorem f9_L1_eq (S : Seam (Value × Heap)) (C : CallF) (n : Nat) (R0 : Value→Value→Heap→Option (Value × Heap)) : ∀ (m : Nat) (env : Env) (H : Heap), aloopK (acodeK S Tryd.prog C n 163 (cAt f9_c [1, 1, 1, 0, 1, 0, 0, 1, 0, 0, 1, 0, 0])) m env H (kAt S Tryd.prog C n 163 (cAt f9_c [1, 1, 1, 0, 1, 0, 0]) [1, 0, 0, 1, 0] (onNormal (fun env' H' => R0 (env' 2) (env' 3) H') (kAt S Tryd.prog C n 163 f9_c [1, 1, 1, 0, 1, 0] (fin Tryd.prog Tryd.f9)))) = f9_L1 S C n R0 m (env 2) (env 3) (env 4) H := by
  intro m env H
  refine aloopK_eq (L := fun m env H => f9_L1 S C n R0 m (env 2) (env 3) (env 4) H) (fun env H => rfl) (fun m env H => ?_) m env H
  kernel_rfl


noncomputable def f9_L2 (S : Seam (Value × Heap)) (C : CallF) (n : Nat) : Nat → Value → Heap → Option (Value × Heap)
 | 0, _, _ => none
 | m + 1, x6_128, H129 =>
   S.b (up (binB Tryd.prog .lss 3 x6_128 (.int .i64 256)) H129) fun x96_130 H131 =>
   S.i x96_130
   (S.b (cvI .u8 x6_128 H131) fun x100_132 H133 =>
    S.b (bldS 1 1 [(.int .u8 0)] [(0, 1, x100_132)] H133) fun x101_134 H135 =>
    S.b (C 3 [x101_134] H135) fun x102_136 H137 =>
    S.b (up (unB .not x102_136) H137) fun x103_138 H139 =>
    S.b (gd (wd x103_138 false) (some (x6_128, H139)) H139) fun x105_140 H141 =>
    S.b (gd (wd x103_138 false) (cvI .u8 x105_140 H141) H141) fun x106_142 H143 =>
    S.b (gd (wd x103_138 false) (bldS 1 3 [(.int .u8 0)] [(0, 1, (.int .u8 97)), (1, 1, x106_142), (2, 1, (.int .u8 98))] H143) H143) fun x107_144 H145 =>
    S.b (gd (wd x103_138 false) (C 3 [x107_144] H145) H145) fun x108_146 H147 =>
    S.b (gd (wd x103_138 false) (up (unB .not x108_146) H147) H147) fun x109_148 H149 =>
    S.b (pickV x103_138 (.bool true) x109_148 H149) fun x110_150 H151 =>
    S.b (gd (wd x110_150 false) (some (x6_128, H151)) H151) fun x112_152 H153 =>
    S.b (gd (wd x110_150 false) (cvI .u8 x112_152 H153) H153) fun x113_154 H155 =>
    S.b (gd (wd x110_150 false) (bldS 1 3 [(.int .u8 0)] [(0, 1, (.int .u8 34)), (1, 1, x113_154), (2, 1, (.int .u8 34))] H155) H155) fun x114_156 H157 =>
    S.b (gd (wd x110_150 false) (C 3 [x114_156] H157) H157) fun x115_158 H159 =>
    S.b (gd (wd x110_150 false) (up (unB .not x115_158) H159) H159) fun x116_160 H161 =>
    S.b (pickV x110_150 (.bool true) x116_160 H161) fun x117_162 H163 =>
    S.b (gd (wd x117_162 false) (some (x6_128, H163)) H163) fun x119_164 H165 =>
    S.b (gd (wd x117_162 false) (cvI .u8 x119_164 H165) H165) fun x120_166 H167 =>
    S.b (gd (wd x117_162 false) (bldS 1 3 [(.int .u8 0)] [(0, 1, (.int .u8 47)), (1, 1, x120_166), (2, 1, (.int .u8 47))] H167) H167) fun x121_168 H169 =>
    S.b (gd (wd x117_162 false) (C 3 [x121_168] H169) H169) fun x122_170 H171 =>
    S.b (gd (wd x117_162 false) (up (unB .not x122_170) H171) H171) fun x123_172 H173 =>
    S.b (pickV x117_162 (.bool true) x123_172 H173) fun x124_174 H175 =>
    S.b (gd (wd x124_174 false) (some (x6_128, H175)) H175) fun x126_176 H177 =>
    S.b (gd (wd x124_174 false) (cvI .u8 x126_176 H177) H177) fun x127_178 H179 =>
    S.b (gd (wd x124_174 false) (bldS 1 1 [(.int .u8 0)] [(0, 1, x127_178)] H179) H179) fun x128_180 H181 =>
    S.b (gd (wd x124_174 false) (toStr x128_180 H181) H181) fun x129_182 H183 =>
    S.b (gd (wd x124_174 false) (some (x6_128, H183)) H183) fun x130_184 H185 =>
    S.b (gd (wd x124_174 false) (C 6 [x129_182, x130_184] H185) H185) fun x131_186 H187 =>
    S.b (gd (wd x124_174 false) (up (unB .not x131_186) H187) H187) fun x132_188 H189 =>
    S.b (pickV x124_174 (.bool true) x132_188 H189) fun x133_190 H191 =>
    S.i x133_190
    (some ((.bool false), H191))
    (S.b (up (binB Tryd.prog .add 3 x6_128 (.int .i64 1)) H191) fun x98_192 H193 =>
     f9_L2 S C n m x98_192 H193))
   (S.b (mkS 1 1 [(.int .u8 0)] (.int .i64 8193) (.int .i64 8193) H131) fun x135_194 H195 =>
    S.b (C 11 [x135_194] H195) fun x136_196 H197 =>
    S.b (extr 0 x136_196 H197) fun x137_198 H199 =>
    S.b (extr 1 x136_196 H199) fun x138_200 H201 =>
    S.b (extr 2 x136_196 H201) fun x139_202 H203 =>
    S.b (C 29 [(.string ⟨#[59]⟩), (.int .i64 8192)] H203) fun x141_204 H205 =>
    S.b (ofStr x141_204 H205) fun x142_206 H207 =>
    S.b (C 11 [x142_206] H207) fun x143_208 H209 =>
    S.b (extr 0 x143_208 H209) fun x144_210 H211 =>
    S.b (extr 1 x143_208 H211) fun x145_212 H213 =>
    S.b (extr 2 x143_208 H213) fun x146_214 H215 =>
    S.b (gd (wd (.bool true) true) (C 15 [] H215) H215) fun x148_216 H217 =>
    S.b (pickV (.bool true) x148_216 (.bool false) H217) fun x149_218 H219 =>
    S.b (gd (wd x149_218 true) (some (x139_202, H219)) H219) fun x151_220 H221 =>
    S.b (gd (wd x149_218 true) (up (binB Tryd.prog .eql 25 x151_220 (.int .i64 5)) H221) H221) fun x152_222 H223 =>
    S.b (pickV x149_218 x152_222 (.bool false) H223) fun x153_224 H225 =>
    S.b (gd (wd x153_224 true) (some (x146_214, H225)) H225) fun x155_226 H227 =>
    S.b (gd (wd x153_224 true) (up (binB Tryd.prog .eql 25 x155_226 (.int .i64 0)) H227) H227) fun x156_228 H229 =>
    S.b (pickV x153_224 x156_228 (.bool false) H229) fun x157_230 H231 =>
    S.b (gd (wd x157_230 true) (some (x144_210, H231)) H231) fun x159_232 H233 =>
    S.b (gd (wd x157_230 true) (up (lenS x159_232) H233) H233) fun x160_234 H235 =>
    S.b (gd (wd x157_230 true) (up (binB Tryd.prog .eql 3 x160_234 (.int .i64 8192)) H235) H235) fun x161_236 H237 =>
    S.b (pickV x157_230 x161_236 (.bool false) H237) fun x162_238 H239 =>
    some (x162_238, H239))

theorem f9_L2_eq (S : Seam (Value × Heap)) (C : CallF) (n : Nat) : ∀ (m : Nat) (env : Env) (H : Heap), aloopK (acodeK S Tryd.prog C n 163 (cAt f9_c [1, 1, 1, 1, 0, 1, 0, 0])) m env H (kAt S Tryd.prog C n 163 f9_c [1, 1, 1, 1, 0, 1, 0] (fin Tryd.prog Tryd.f9)) = f9_L2 S C n m (env 6) H := by
  intro m env H
  refine aloopK_eq (L := fun m env H => f9_L2 S C n m (env 6) H) (fun env H => rfl) (fun m env H => ?_) m env H
  kernel_rfl


noncomputable def f9_L0 (S : Seam (Value × Heap)) (C : CallF) (n : Nat) : Nat → Value → Value → Heap → Option (Value × Heap)
 | 0, _, _, _ => none
 | m + 1, x2_11, x3_12, H13 =>
   S.b (up (lenS x2_11) H13) fun x22_14 H15 =>
   S.b (up (binB Tryd.prog .lss 3 x3_12 x22_14) H15) fun x23_16 H17 =>
   S.i x23_16
   (f9_L1 S C n (f9_L0 S C n m) n x2_11 x3_12 (.int .i64 0) H17)
   (f9_L2 S C n n (.int .i64 0) H17)

noncomputable def f9_L0G (S : Seam (Value × Heap)) (C : CallF) (n : Nat) (R0 : Value→Value→Heap→Option (Value × Heap)) (P1 : Env → Heap → Option (Value × Heap)) (P2 : Env → Heap → Option (Value × Heap)) (env : Env) (H : Heap) : Option (Value × Heap) :=
 S.b (up (lenS (env 2)) H) fun x22_240 H241 =>
 S.b (up (binB Tryd.prog .lss 3 (env 3) x22_240) H241) fun x23_242 H243 =>
 S.i x23_242
 (P1 (putE 163 (putE 163 (putE 163 (putE 163 (putE 163 env (some 20) (env 3)) (some 21) (env 2)) (some 22) x22_240) (some 23) x23_242) (some 4) (.int .i64 0)) H243)
 (P2 (putE 163 (putE 163 (putE 163 (putE 163 (putE 163 env (some 20) (env 3)) (some 21) (env 2)) (some 22) x22_240) (some 23) x23_242) (some 6) (.int .i64 0)) H243)

theorem f9_L0_eq (S : Seam (Value × Heap)) (C : CallF) (n : Nat) : ∀ (m : Nat) (env : Env) (H : Heap), aloopK (acodeK S Tryd.prog C n 163 (cAt f9_c [1, 1, 1, 0, 1, 0, 0])) m env H (kAt S Tryd.prog C n 163 f9_c [1, 1, 1, 0, 1, 0] (fin Tryd.prog Tryd.f9)) = f9_L0 S C n m (env 2) (env 3) H := by
  intro m env H
  refine aloopK_eq (L := fun m env H => f9_L0 S C n m (env 2) (env 3) H) (fun env H => rfl) (fun m env H => ?_) m env H
  have h1 : acodeK S Tryd.prog C n 163 (cAt f9_c [1, 1, 1, 0, 1, 0, 0]) env H (onNormal (fun env' H' => f9_L0 S C n m (env' 2) (env' 3) H') (kAt S Tryd.prog C n 163 f9_c [1, 1, 1, 0, 1, 0] (fin Tryd.prog Tryd.f9))) = f9_L0G S C n (f9_L0 S C n m) (fun env H => aloopK (acodeK S Tryd.prog C n 163 (cAt f9_c [1, 1, 1, 0, 1, 0, 0, 1, 0, 0, 1, 0, 0])) n env H (kAt S Tryd.prog C n 163 (cAt f9_c [1, 1, 1, 0, 1, 0, 0]) [1, 0, 0, 1, 0] (onNormal (fun env' H' => (f9_L0 S C n m) (env' 2) (env' 3) H') (kAt S Tryd.prog C n 163 f9_c [1, 1, 1, 0, 1, 0] (fin Tryd.prog Tryd.f9))))) (fun env H => aloopK (acodeK S Tryd.prog C n 163 (cAt f9_c [1, 1, 1, 1, 0, 1, 0, 0])) n env H (kAt S Tryd.prog C n 163 f9_c [1, 1, 1, 1, 0, 1, 0] (fin Tryd.prog Tryd.f9))) env H := by kernel_rfl
  have e0 : (fun env H => aloopK (acodeK S Tryd.prog C n 163 (cAt f9_c [1, 1, 1, 0, 1, 0, 0, 1, 0, 0, 1, 0, 0])) n env H (kAt S Tryd.prog C n 163 (cAt f9_c [1, 1, 1, 0, 1, 0, 0]) [1, 0, 0, 1, 0] (onNormal (fun env' H' => (f9_L0 S C n m) (env' 2) (env' 3) H') (kAt S Tryd.prog C n 163 f9_c [1, 1, 1, 0, 1, 0] (fin Tryd.prog Tryd.f9))))) = (fun env H => f9_L1 S C n (f9_L0 S C n m) n (env 2) (env 3) (env 4) H) := by funext env H; exact f9_L1_eq S C n (f9_L0 S C n m) n env H
  have e1 : (fun env H => aloopK (acodeK S Tryd.prog C n 163 (cAt f9_c [1, 1, 1, 1, 0, 1, 0, 0])) n env H (kAt S Tryd.prog C n 163 f9_c [1, 1, 1, 1, 0, 1, 0] (fin Tryd.prog Tryd.f9))) = (fun env H => f9_L2 S C n n (env 6) H) := by funext env H; exact f9_L2_eq S C n n env H
  rw [e0, e1] at h1
  exact h1.trans (by kernel_rfl)


noncomputable def f9 (S : Seam (Value × Heap)) (C : CallF) (n : Nat) (H : Heap) : Option (Value × Heap) :=
 S.b (C 29 [(.string ⟨#[110]⟩), (.int .i64 25)] H) fun x13_1 H2 =>
 S.b (up (slcStr x13_1 none (some (.int .i64 24))) H2) fun x16_3 H4 =>
 S.b (C 29 [(.string ⟨#[112]⟩), (.int .i64 32)] H4) fun x17_5 H6 =>
 S.c true (S.b (C 29 [(.string ⟨#[112]⟩), (.int .i64 33)] H6) fun x18_7 H8 =>
  S.c true (S.b (bldS 1 29 [(.string ⟨#[]⟩)] [(0, 1, (.string ⟨#[]⟩)), (1, 1, (.string ⟨#[97]⟩)), (2, 1, (.string ⟨#[95]⟩)), (3, 1, (.string ⟨#[57, 97]⟩)), (4, 1, (.string ⟨#[97, 57, 95, 90]⟩)), (5, 1, x13_1), (6, 1, x16_3), (7, 1, (.string ⟨#[105, 109, 112, 111, 114, 116]⟩)), (8, 1, (.string ⟨#[105, 109, 112, 111, 114, 116, 115]⟩)), (9, 1, (.string ⟨#[73, 109, 112, 111, 114, 116]⟩)), (10, 1, (.string ⟨#[112, 114, 101, 99]⟩)), (11, 1, (.string ⟨#[97, 32, 98]⟩)), (12, 1, (.string ⟨#[195, 164]⟩)), (13, 1, (.string ⟨#[97, 47, 98]⟩)), (14, 1, (.string ⟨#[46, 46, 47, 120, 45, 121, 95, 122, 46, 57]⟩)), (15, 1, (.string ⟨#[65]⟩)), (16, 1, x17_5), (17, 1, x18_7), (18, 1, (.string ⟨#[97, 92, 47, 98]⟩)), (19, 1, (.string ⟨#[97, 92, 92]⟩)), (20, 1, (.string ⟨#[92]⟩)), (21, 1, (.string ⟨#[97, 92]⟩)), (22, 1, (.string ⟨#[47]⟩)), (23, 1, (.string ⟨#[97, 10, 98]⟩)), (24, 1, (.string ⟨#[92, 10]⟩)), (25, 1, (.string ⟨#[92, 13]⟩)), (26, 1, (.string ⟨#[97, 13, 98]⟩)), (27, 1, (.string ⟨#[34]⟩)), (28, 1, (.string ⟨#[91, 97, 45, 122, 93, 43, 124, 120, 42]⟩))] H8) fun x19_9 H10 =>
   f9_L0 S C n n x19_9 (.int .i64 0) H10))

noncomputable def f9G (S : Seam (Value × Heap)) (C : CallF) (n : Nat) (P0 : Env → Heap → Option (Value × Heap)) (H : Heap) : Option (Value × Heap) :=
 S.b (C 29 [(.string ⟨#[110]⟩), (.int .i64 25)] H) fun x13_244 H245 =>
 S.b (up (slcStr x13_244 none (some (.int .i64 24))) H245) fun x16_246 H247 =>
 S.b (C 29 [(.string ⟨#[112]⟩), (.int .i64 32)] H247) fun x17_248 H249 =>
 S.c true (S.b (C 29 [(.string ⟨#[112]⟩), (.int .i64 33)] H249) fun x18_250 H251 =>
  S.c true (S.b (bldS 1 29 [(.string ⟨#[]⟩)] [(0, 1, (.string ⟨#[]⟩)), (1, 1, (.string ⟨#[97]⟩)), (2, 1, (.string ⟨#[95]⟩)), (3, 1, (.string ⟨#[57, 97]⟩)), (4, 1, (.string ⟨#[97, 57, 95, 90]⟩)), (5, 1, x13_244), (6, 1, x16_246), (7, 1, (.string ⟨#[105, 109, 112, 111, 114, 116]⟩)), (8, 1, (.string ⟨#[105, 109, 112, 111, 114, 116, 115]⟩)), (9, 1, (.string ⟨#[73, 109, 112, 111, 114, 116]⟩)), (10, 1, (.string ⟨#[112, 114, 101, 99]⟩)), (11, 1, (.string ⟨#[97, 32, 98]⟩)), (12, 1, (.string ⟨#[195, 164]⟩)), (13, 1, (.string ⟨#[97, 47, 98]⟩)), (14, 1, (.string ⟨#[46, 46, 47, 120, 45, 121, 95, 122, 46, 57]⟩)), (15, 1, (.string ⟨#[65]⟩)), (16, 1, x17_248), (17, 1, x18_250), (18, 1, (.string ⟨#[97, 92, 47, 98]⟩)), (19, 1, (.string ⟨#[97, 92, 92]⟩)), (20, 1, (.string ⟨#[92]⟩)), (21, 1, (.string ⟨#[97, 92]⟩)), (22, 1, (.string ⟨#[47]⟩)), (23, 1, (.string ⟨#[97, 10, 98]⟩)), (24, 1, (.string ⟨#[92, 10]⟩)), (25, 1, (.string ⟨#[92, 13]⟩)), (26, 1, (.string ⟨#[97, 13, 98]⟩)), (27, 1, (.string ⟨#[34]⟩)), (28, 1, (.string ⟨#[91, 97, 45, 122, 93, 43, 124, 120, 42]⟩))] H251) fun x19_252 H253 =>
   P0 (putE 163 (putE 163 (putE 163 (putE 163 (putE 163 (putE 163 (putE 163 (putE 163 (putE 163 (putE 163 (putE 163 (env0 []) (some 0) (.bool false)) (some 13) x13_244) (some 1) x13_244) (some 14) x13_244) (some 15) x13_244) (some 16) x16_246) (some 17) x17_248) (some 18) x18_250) (some 19) x19_252) (some 2) x19_252) (some 3) (.int .i64 0)) H253))

theorem f9_main (S : Seam (Value × Heap)) (C : CallF) (n : Nat) (H : Heap) : acodeK S Tryd.prog C n 163 f9_c (env0 []) H (fin Tryd.prog Tryd.f9) = f9 S C n H := by
  have h1 : acodeK S Tryd.prog C n 163 f9_c (env0 []) H (fin Tryd.prog Tryd.f9) = f9G S C n (fun env H => aloopK (acodeK S Tryd.prog C n 163 (cAt f9_c [1, 1, 1, 0, 1, 0, 0])) n env H (kAt S Tryd.prog C n 163 f9_c [1, 1, 1, 0, 1, 0] (fin Tryd.prog Tryd.f9))) H := by kernel_rfl
  have e0 : (fun env H => aloopK (acodeK S Tryd.prog C n 163 (cAt f9_c [1, 1, 1, 0, 1, 0, 0])) n env H (kAt S Tryd.prog C n 163 f9_c [1, 1, 1, 0, 1, 0] (fin Tryd.prog Tryd.f9))) = (fun env H => f9_L0 S C n n (env 2) (env 3) H) := by funext env H; exact f9_L0_eq S C n n env H
  rw [e0] at h1
  exact h1.trans (by kernel_rfl)


theorem f9_eq {E : Ext} (hE : E 9 = none) (n : Nat) (H : Heap) : acall Tryd.prog true E (n + 1) 9 [] H = f9 real (acall Tryd.prog true E n) n H :=
  (acall_eq (N := 163) Tryd.func9 (by kernel_rfl) (by kernel_rfl) hE (by kernel_rfl) (by kernel_rfl)).trans (f9_main real _ n H)

/-! incunable/incunableref00.CopyBytes -/
noncomputable def f10_c : Code := (Tryd.f10.body).getD .skip

noncomputable def f10 (S : Seam (Value × Heap)) (C : CallF) (n : Nat) (x0 : Value) (H : Heap) : Option (Value × Heap) :=
 S.b (app 1 1 (.slice none 0 0) x0 H) fun x6_1 H2 =>
 some (x6_1, H2)

theorem f10_main (S : Seam (Value × Heap)) (C : CallF) (n : Nat) (x0 : Value) (H : Heap) : acodeK S Tryd.prog C n 8 f10_c (env0 [x0]) H (fin Tryd.prog Tryd.f10) = f10 S C n x0 H := by
  kernel_rfl


theorem f10_eq {E : Ext} (hE : E 10 = none) (n : Nat) (x0 : Value) (H : Heap) : acall Tryd.prog true E (n + 1) 10 [x0] H = f10 real (acall Tryd.prog true E n) n x0 H :=
  (acall_eq (N := 8) Tryd.func10 (by kernel_rfl) (by kernel_rfl) hE (by kernel_rfl) (by kernel_rfl)).trans (f10_main real _ n x0 H)

/-! incunable/words.Cut -/
noncomputable def f11_c : Code := (Tryd.f11.body).getD .skip

noncomputable def f11_J1 (S : Seam (Value × Heap)) (C : CallF) (n : Nat) (R0 : Value→Value→Value→Heap→Option (Value × Heap)) (x0_43 x2_44 x5_45 : Value) (H46 : Heap) : Option (Value × Heap) :=
 S.b (C 30 [x5_45, (.string ⟨#[32, 9, 10, 13]⟩)] H46) fun x18_47 H48 =>
 R0 x0_43 x2_44 x18_47 H48

noncomputable def f11_L0 (S : Seam (Value × Heap)) (C : CallF) (n : Nat) : Nat → Value → Value → Value → Heap → Option (Value × Heap)
 | 0, _, _, _, _ => none
 | m + 1, x0_7, x2_8, x5_9, H10 =>
   S.b (up (lenS x5_9) H10) fun x15_11 H12 =>
   S.b (up (binB Tryd.prog .gtr 3 x15_11 (.int .i64 0)) H12) fun x16_13 H14 =>
   S.i x16_13
   (S.b (up (lenS x0_7) H14) fun x20_15 H16 =>
    S.b (up (lenS x5_9) H16) fun x22_17 H18 =>
    S.b (up (binB Tryd.prog .sub 3 x20_15 x22_17) H18) fun x23_19 H20 =>
    S.b (up (iAddrS 1 x5_9 (.int .i64 0)) H20) fun x25_21 H22 =>
    S.b (ldC x25_21 H22) fun x26_23 H24 =>
    S.b (up (binB Tryd.prog .eql 5 x26_23 (.int .u8 35)) H24) fun x27_25 H26 =>
    S.i x27_25
    (S.b (bldS 1 1 [(.int .u8 0)] [(0, 1, (.int .u8 10))] H26) fun x30_27 H28 =>
     S.b (markV x30_27 H28) fun x31_29 H30 =>
     S.b (C 31 [x5_9, x31_29] H30) fun x32_31 H32 =>
     S.b (extr 0 x32_31 H32) fun x33_33 H34 =>
     S.b (extr 1 x32_31 H34) fun x34_35 H36 =>
     S.b (extr 2 x32_31 H36) fun x35_37 H38 =>
     f11_J1 S C n (f11_L0 S C n m) x0_7 x2_8 x34_35 H38)
    (S.b (toStr x5_9 H26) fun x38_49 H50 =>
     S.b (C 32 [x38_49] H50) fun x39_51 H52 =>
     S.b (extr 0 x39_51 H52) fun x40_53 H54 =>
     S.b (extr 1 x39_51 H54) fun x41_55 H56 =>
     S.b (up (binB Tryd.prog .eql 3 x40_53 (.int .i64 0)) H56) fun x43_57 H58 =>
     S.i x43_57
     (some (.tuple #[(.slice none 0 0), x23_19, (.int .i64 140)], H58))
     (S.b (up (binB Tryd.prog .add 3 x23_19 x41_55) H58) fun x50_59 H60 =>
      S.b (bld [(.int .i64 0), (.int .i64 0), (.int .i64 0)] [(0, 1, x40_53), (1, 1, x23_19), (2, 1, x50_59)] H60) fun x51_61 H62 =>
      S.b (bldS 3 1 [(.int .i64 0), (.int .i64 0), (.int .i64 0)] [(0, 3, x51_61)] H62) fun x52_63 H64 =>
      S.b (app 3 24 x2_8 x52_63 H64) fun x53_65 H66 =>
      S.b (up (slcS 1 x5_9 (some x41_55) none none) H66) fun x56_67 H68 =>
      f11_J1 S C n (f11_L0 S C n m) x0_7 x53_65 x56_67 H68)))
   (some (.tuple #[x2_8, (.int .i64 0), (.int .i64 0)], H14))

theorem f11_L0_eq (S : Seam (Value × Heap)) (C : CallF) (n : Nat) : ∀ (m : Nat) (env : Env) (H : Heap), aloopK (acodeK S Tryd.prog C n 58 (cAt f11_c [1, 1, 0, 1, 0, 0])) m env H (kAt S Tryd.prog C n 58 f11_c [1, 1, 0, 1, 0] (fin Tryd.prog Tryd.f11)) = f11_L0 S C n m (env 0) (env 2) (env 5) H := by
  intro m env H
  refine aloopK_eq (L := fun m env H => f11_L0 S C n m (env 0) (env 2) (env 5) H) (fun env H => rfl) (fun m env H => ?_) m env H
  kernel_rfl


noncomputable def f11 (S : Seam (Value × Heap)) (C : CallF) (n : Nat) (x0 : Value) (H : Heap) : Option (Value × Heap) :=
 S.b (up (lenS x0) H) fun x10_1 H2 =>
 S.b (up (binB Tryd.prog .gtr 3 x10_1 (.int .i64 8192)) H2) fun x11_3 H4 =>
 S.i x11_3
 (some (.tuple #[(.slice none 0 0), (.int .i64 0), (.int .i64 5)], H4))
 (S.b (C 30 [x0, (.string ⟨#[32, 9, 10, 13]⟩)] H4) fun x13_5 H6 =>
  f11_L0 S C n n x0 (.slice none 0 0) x13_5 H6)

noncomputable def f11G (S : Seam (Value × Heap)) (C : CallF) (n : Nat) (P0 : Env → Heap → Option (Value × Heap)) (x0 : Value) (H : Heap) : Option (Value × Heap) :=
 S.b (up (lenS x0) H) fun x10_69 H70 =>
 S.b (up (binB Tryd.prog .gtr 3 x10_69 (.int .i64 8192)) H70) fun x11_71 H72 =>
 S.i x11_71
 (some (.tuple #[(.slice none 0 0), (.int .i64 0), (.int .i64 5)], H72))
 (S.b (C 30 [x0, (.string ⟨#[32, 9, 10, 13]⟩)] H72) fun x13_73 H74 =>
  P0 (putE 58 (putE 58 (putE 58 (putE 58 (putE 58 (putE 58 (putE 58 (putE 58 (putE 58 (env0 [x0]) (some 2) (.slice none 0 0)) (some 3) (.int .i64 0)) (some 4) (.int .i64 0)) (some 9) x0) (some 10) x10_69) (some 11) x11_71) (some 12) x0) (some 13) x13_73) (some 5) x13_73) H74)

theorem f11_main (S : Seam (Value × Heap)) (C : CallF) (n : Nat) (x0 : Value) (H : Heap) : acodeK S Tryd.prog C n 58 f11_c (env0 [x0]) H (fin Tryd.prog Tryd.f11) = f11 S C n x0 H := by
  have h1 : acodeK S Tryd.prog C n 58 f11_c (env0 [x0]) H (fin Tryd.prog Tryd.f11) = f11G S C n (fun env H => aloopK (acodeK S Tryd.prog C n 58 (cAt f11_c [1, 1, 0, 1, 0, 0])) n env H (kAt S Tryd.prog C n 58 f11_c [1, 1, 0, 1, 0] (fin Tryd.prog Tryd.f11))) x0 H := by kernel_rfl
  have e0 : (fun env H => aloopK (acodeK S Tryd.prog C n 58 (cAt f11_c [1, 1, 0, 1, 0, 0])) n env H (kAt S Tryd.prog C n 58 f11_c [1, 1, 0, 1, 0] (fin Tryd.prog Tryd.f11))) = (fun env H => f11_L0 S C n n (env 0) (env 2) (env 5) H) := by funext env H; exact f11_L0_eq S C n n env H
  rw [e0] at h1
  exact h1.trans (by kernel_rfl)


theorem f11_eq {E : Ext} (hE : E 11 = none) (n : Nat) (x0 : Value) (H : Heap) : acall Tryd.prog true E (n + 1) 11 [x0] H = f11 real (acall Tryd.prog true E n) n x0 H :=
  (acall_eq (N := 58) Tryd.func11 (by kernel_rfl) (by kernel_rfl) hE (by kernel_rfl) (by kernel_rfl)).trans (f11_main real _ n x0 H)

/-! incunable/incunableref14.Cut -/
noncomputable def f12_c : Code := (Tryd.f12.body).getD .skip

noncomputable def f12_L1 (S : Seam (Value × Heap)) (C : CallF) (n : Nat) (R0 : Value→Value→Value→Heap→Option (Value × Heap)) : Nat → Value → Value → Value → Heap → Option (Value × Heap)
 | 0, _, _, _, _ => none
 | m + 1, x0_45, x5_46, x6_47, H48 =>
   S.b (up (lenS x0_45) H48) fun x40_49 H50 =>
   S.b (up (binB Tryd.prog .lss 3 x6_47 x40_49) H50) fun x41_51 H52 =>
   S.b (gd (wd x41_51 true) (some (x0_45, H52)) H52) fun x43_53 H54 =>
   S.b (gd (wd x41_51 true) (some (x6_47, H54)) H54) fun x44_55 H56 =>
   S.b (gd (wd x41_51 true) (up (iAddrS 1 x43_53 x44_55) H56) H56) fun x45_57 H58 =>
   S.b (gd (wd x41_51 true) (ldC x45_57 H58) H58) fun x46_59 H60 =>
   S.b (gd (wd x41_51 true) (up (binB Tryd.prog .neq 5 x46_59 (.int .u8 10)) H60) H60) fun x47_61 H62 =>
   S.b (pickV x41_51 x47_61 (.bool false) H62) fun x48_63 H64 =>
   S.i x48_63
   (S.b (up (binB Tryd.prog .add 3 x6_47 (.int .i64 1)) H64) fun x50_65 H66 =>
    f12_L1 S C n R0 m x0_45 x5_46 x50_65 H66)
   (R0 x0_45 x5_46 x6_47 H64)

theorem f12_L1_eq (S : Seam (Value × Heap)) (C : CallF) (n : Nat) (R0 : Value→Value→Value→Heap→Option (Value × Heap)) : ∀ (m : Nat) (env : Env) (H : Heap), aloopK (acodeK S Tryd.prog C n 65 (cAt f12_c [1, 1, 1, 1, 0, 0, 0, 1, 0, 1, 1, 0, 1, 0, 0, 0, 0])) m env H (kAt S Tryd.prog C n 65 (cAt f12_c [1, 1, 1, 1, 0, 0, 0]) [1, 0, 1, 1, 0, 1, 0, 0, 0] (onNormal (fun env' H' => R0 (env' 0) (env' 5) (env' 6) H') (kAt S Tryd.prog C n 65 f12_c [1, 1, 1, 1, 0, 0] (fin Tryd.prog Tryd.f12)))) = f12_L1 S C n R0 m (env 0) (env 5) (env 6) H := by
  intro m env H
  refine aloopK_eq (L := fun m env H => f12_L1 S C n R0 m (env 0) (env 5) (env 6) H) (fun env H => rfl) (fun m env H => ?_) m env H
  kernel_rfl


noncomputable def f12_L0 (S : Seam (Value × Heap)) (C : CallF) (n : Nat) : Nat → Value → Value → Value → Heap → Option (Value × Heap)
 | 0, _, _, _, _ => none
 | m + 1, x0_5, x5_6, x6_7, H8 =>
   S.b (up (lenS x0_5) H8) fun x14_9 H10 =>
   S.b (up (binB Tryd.prog .lss 3 x6_7 x14_9) H10) fun x15_11 H12 =>
   S.i x15_11
   (S.b (up (iAddrS 1 x0_5 x6_7) H12) fun x18_13 H14 =>
    S.b (ldC x18_13 H14) fun x19_15 H16 =>
    S.b (up (binB Tryd.prog .eql 5 x19_15 (.int .u8 32)) H16) fun x21_17 H18 =>
    S.b (gd (wd x21_17 false) (some (x19_15, H18)) H18) fun x23_19 H20 =>
    S.b (gd (wd x21_17 false) (up (binB Tryd.prog .eql 5 x23_19 (.int .u8 9)) H20) H20) fun x24_21 H22 =>
    S.b (pickV x21_17 (.bool true) x24_21 H22) fun x25_23 H24 =>
    S.b (gd (wd x25_23 false) (some (x19_15, H24)) H24) fun x27_25 H26 =>
    S.b (gd (wd x25_23 false) (up (binB Tryd.prog .eql 5 x27_25 (.int .u8 10)) H26) H26) fun x28_27 H28 =>
    S.b (pickV x25_23 (.bool true) x28_27 H28) fun x29_29 H30 =>
    S.b (gd (wd x29_29 false) (some (x19_15, H30)) H30) fun x31_31 H32 =>
    S.b (gd (wd x29_29 false) (up (binB Tryd.prog .eql 5 x31_31 (.int .u8 13)) H32) H32) fun x32_33 H34 =>
    S.b (pickV x29_29 (.bool true) x32_33 H34) fun x33_35 H36 =>
    S.i x33_35
    (S.b (up (binB Tryd.prog .add 3 x6_7 (.int .i64 1)) H36) fun x35_37 H38 =>
     f12_L0 S C n m x0_5 x5_6 x35_37 H38)
    (S.b (up (binB Tryd.prog .eql 5 x19_15 (.int .u8 35)) H36) fun x37_43 H44 =>
     S.i x37_43
     (f12_L1 S C n (f12_L0 S C n m) n x0_5 x5_6 x6_7 H44)
     (S.b (C 33 [x0_5, x6_7] H44) fun x53_67 H68 =>
      S.b (newV [(.int .i64 0), (.int .i64 0), (.int .i64 0)] H68) fun x8_69 H70 =>
      S.b (stV 3 x8_69 x53_67 H70) fun _ H71 =>
      S.b (up (fAddr 0 x8_69) H71) fun x54_72 H73 =>
      S.b (ldC x54_72 H73) fun x55_74 H75 =>
      S.b (up (binB Tryd.prog .eql 3 x55_74 (.int .i64 0)) H75) fun x56_76 H77 =>
      S.i x56_76
      (some (.tuple #[(.slice none 0 0), x6_7, (.int .i64 140)], H77))
      (S.b (ldA 3 x8_69 H77) fun x59_78 H79 =>
       S.b (bldS 3 1 [(.int .i64 0), (.int .i64 0), (.int .i64 0)] [(0, 3, x59_78)] H79) fun x60_80 H81 =>
       S.b (app 3 24 x5_6 x60_80 H81) fun x61_82 H83 =>
       S.b (up (fAddr 2 x8_69) H83) fun x62_84 H85 =>
       S.b (ldC x62_84 H85) fun x63_86 H87 =>
       f12_L0 S C n m x0_5 x61_82 x63_86 H87))))
   (some (.tuple #[x5_6, (.int .i64 0), (.int .i64 0)], H12))

noncomputable def f12_L0G (S : Seam (Value × Heap)) (C : CallF) (n : Nat) (R0 : Value→Value→Value→Heap→Option (Value × Heap)) (P1 : Env → Heap → Option (Value × Heap)) (env : Env) (H : Heap) : Option (Value × Heap) :=
 S.b (up (lenS (env 0)) H) fun x14_88 H89 =>
 S.b (up (binB Tryd.prog .lss 3 (env 6) x14_88) H89) fun x15_90 H91 =>
 S.i x15_90
 (S.b (up (iAddrS 1 (env 0) (env 6)) H91) fun x18_92 H93 =>
  S.b (ldC x18_92 H93) fun x19_94 H95 =>
  S.b (up (binB Tryd.prog .eql 5 x19_94 (.int .u8 32)) H95) fun x21_96 H97 =>
  S.b (gd (wd x21_96 false) (some (x19_94, H97)) H97) fun x23_98 H99 =>
  S.b (gd (wd x21_96 false) (up (binB Tryd.prog .eql 5 x23_98 (.int .u8 9)) H99) H99) fun x24_100 H101 =>
  S.b (pickV x21_96 (.bool true) x24_100 H101) fun x25_102 H103 =>
  S.b (gd (wd x25_102 false) (some (x19_94, H103)) H103) fun x27_104 H105 =>
  S.b (gd (wd x25_102 false) (up (binB Tryd.prog .eql 5 x27_104 (.int .u8 10)) H105) H105) fun x28_106 H107 =>
  S.b (pickV x25_102 (.bool true) x28_106 H107) fun x29_108 H109 =>
  S.b (gd (wd x29_108 false) (some (x19_94, H109)) H109) fun x31_110 H111 =>
  S.b (gd (wd x29_108 false) (up (binB Tryd.prog .eql 5 x31_110 (.int .u8 13)) H111) H111) fun x32_112 H113 =>
  S.b (pickV x29_108 (.bool true) x32_112 H113) fun x33_114 H115 =>
  S.i x33_114
  (S.b (up (binB Tryd.prog .add 3 (env 6) (.int .i64 1)) H115) fun x35_116 H117 =>
   R0 (env 0) (env 5) x35_116 H117)
  (S.b (up (binB Tryd.prog .eql 5 x19_94 (.int .u8 35)) H115) fun x37_118 H119 =>
   S.i x37_118
   (P1 (putE 65 (putE 65 (putE 65 (putE 65 (putE 65 (putE 65 (putE 65 (putE 65 (putE 65 (putE 65 (putE 65 (putE 65 (putE 65 (putE 65 (putE 65 (putE 65 (putE 65 (putE 65 (putE 65 (putE 65 (putE 65 (putE 65 (putE 65 (putE 65 (putE 65 env (some 12) (env 6)) (some 13) (env 0)) (some 14) x14_88) (some 15) x15_90) (some 16) (env 0)) (some 17) (env 6)) (some 18) x18_92) (some 19) x19_94) (some 7) x19_94) (some 20) x19_94) (some 21) x21_96) (some 22) x21_96) (some 23) x23_98) (some 24) x24_100) (some 25) x25_102) (some 26) x25_102) (some 27) x27_104) (some 28) x28_106) (some 29) x29_108) (some 30) x29_108) (some 31) x31_110) (some 32) x32_112) (some 33) x33_114) (some 36) x19_94) (some 37) x37_118) H119)
   (S.b (C 33 [(env 0), (env 6)] H119) fun x53_120 H121 =>
    S.b (newV [(.int .i64 0), (.int .i64 0), (.int .i64 0)] H121) fun x8_122 H123 =>
    S.b (stV 3 x8_122 x53_120 H123) fun u124 H125 =>
    S.b (up (fAddr 0 x8_122) H125) fun x54_126 H127 =>
    S.b (ldC x54_126 H127) fun x55_128 H129 =>
    S.b (up (binB Tryd.prog .eql 3 x55_128 (.int .i64 0)) H129) fun x56_130 H131 =>
    S.i x56_130
    (some (.tuple #[(.slice none 0 0), (env 6), (.int .i64 140)], H131))
    (S.b (ldA 3 x8_122 H131) fun x59_132 H133 =>
     S.b (bldS 3 1 [(.int .i64 0), (.int .i64 0), (.int .i64 0)] [(0, 3, x59_132)] H133) fun x60_134 H135 =>
     S.b (app 3 24 (env 5) x60_134 H135) fun x61_136 H137 =>
     S.b (up (fAddr 2 x8_122) H137) fun x62_138 H139 =>
     S.b (ldC x62_138 H139) fun x63_140 H141 =>
     R0 (env 0) x61_136 x63_140 H141))))
 (some (.tuple #[(env 5), (.int .i64 0), (.int .i64 0)], H91))

theorem f12_L0_eq (S : Seam (Value × Heap)) (C : CallF) (n : Nat) : ∀ (m : Nat) (env : Env) (H : Heap), aloopK (acodeK S Tryd.prog C n 65 (cAt f12_c [1, 1, 1, 1, 0, 0, 0])) m env H (kAt S Tryd.prog C n 65 f12_c [1, 1, 1, 1, 0, 0] (fin Tryd.prog Tryd.f12)) = f12_L0 S C n m (env 0) (env 5) (env 6) H := by
  intro m env H
  refine aloopK_eq (L := fun m env H => f12_L0 S C n m (env 0) (env 5) (env 6) H) (fun env H => rfl) (fun m env H => ?_) m env H
  have h1 : acodeK S Tryd.prog C n 65 (cAt f12_c [1, 1, 1, 1, 0, 0, 0]) env H (onNormal (fun env' H' => f12_L0 S C n m (env' 0) (env' 5) (env' 6) H') (kAt S Tryd.prog C n 65 f12_c [1, 1, 1, 1, 0, 0] (fin Tryd.prog Tryd.f12))) = f12_L0G S C n (f12_L0 S C n m) (fun env H => aloopK (acodeK S Tryd.prog C n 65 (cAt f12_c [1, 1, 1, 1, 0, 0, 0, 1, 0, 1, 1, 0, 1, 0, 0, 0, 0])) n env H (kAt S Tryd.prog C n 65 (cAt f12_c [1, 1, 1, 1, 0, 0, 0]) [1, 0, 1, 1, 0, 1, 0, 0, 0] (onNormal (fun env' H' => (f12_L0 S C n m) (env' 0) (env' 5) (env' 6) H') (kAt S Tryd.prog C n 65 f12_c [1, 1, 1, 1, 0, 0] (fin Tryd.prog Tryd.f12))))) env H := by kernel_rfl
  have e0 : (fun env H => aloopK (acodeK S Tryd.prog C n 65 (cAt f12_c [1, 1, 1, 1, 0, 0, 0, 1, 0, 1, 1, 0, 1, 0, 0, 0, 0])) n env H (kAt S Tryd.prog C n 65 (cAt f12_c [1, 1, 1, 1, 0, 0, 0]) [1, 0, 1, 1, 0, 1, 0, 0, 0] (onNormal (fun env' H' => (f12_L0 S C n m) (env' 0) (env' 5) (env' 6) H') (kAt S Tryd.prog C n 65 f12_c [1, 1, 1, 1, 0, 0] (fin Tryd.prog Tryd.f12))))) = (fun env H => f12_L1 S C n (f12_L0 S C n m) n (env 0) (env 5) (env 6) H) := by funext env H; exact f12_L1_eq S C n (f12_L0 S C n m) n env H
  rw [e0] at h1
  exact h1.trans (by kernel_rfl)


noncomputable def f12 (S : Seam (Value × Heap)) (C : CallF) (n : Nat) (x0 : Value) (H : Heap) : Option (Value × Heap) :=
 S.b (up (lenS x0) H) fun x10_1 H2 =>
 S.b (up (binB Tryd.prog .gtr 3 x10_1 (.int .i64 8192)) H2) fun x11_3 H4 =>
 S.i x11_3
 (some (.tuple #[(.slice none 0 0), (.int .i64 0), (.int .i64 5)], H4))
 (f12_L0 S C n n x0 (.slice none 0 0) (.int .i64 0) H4)

noncomputable def f12G (S : Seam (Value × Heap)) (C : CallF) (n : Nat) (P0 : Env → Heap → Option (Value × Heap)) (x0 : Value) (H : Heap) : Option (Value × Heap) :=
 S.b (up (lenS x0) H) fun x10_142 H143 =>
 S.b (up (binB Tryd.prog .gtr 3 x10_142 (.int .i64 8192)) H143) fun x11_144 H145 =>
 S.i x11_144
 (some (.tuple #[(.slice none 0 0), (.int .i64 0), (.int .i64 5)], H145))
 (P0 (putE 65 (putE 65 (putE 65 (putE 65 (putE 65 (putE 65 (putE 65 (putE 65 (env0 [x0]) (some 2) (.slice none 0 0)) (some 3) (.int .i64 0)) (some 4) (.int .i64 0)) (some 9) x0) (some 10) x10_142) (some 11) x11_144) (some 5) (.slice none 0 0)) (some 6) (.int .i64 0)) H145)

theorem f12_main (S : Seam (Value × Heap)) (C : CallF) (n : Nat) (x0 : Value) (H : Heap) : acodeK S Tryd.prog C n 65 f12_c (env0 [x0]) H (fin Tryd.prog Tryd.f12) = f12 S C n x0 H := by
  have h1 : acodeK S Tryd.prog C n 65 f12_c (env0 [x0]) H (fin Tryd.prog Tryd.f12) = f12G S C n (fun env H => aloopK (acodeK S Tryd.prog C n 65 (cAt f12_c [1, 1, 1, 1, 0, 0, 0])) n env H (kAt S Tryd.prog C n 65 f12_c [1, 1, 1, 1, 0, 0] (fin Tryd.prog Tryd.f12))) x0 H := by kernel_rfl
  have e0 : (fun env H => aloopK (acodeK S Tryd.prog C n 65 (cAt f12_c [1, 1, 1, 1, 0, 0, 0])) n env H (kAt S Tryd.prog C n 65 f12_c [1, 1, 1, 1, 0, 0] (fin Tryd.prog Tryd.f12))) = (fun env H => f12_L0 S C n n (env 0) (env 5) (env 6) H) := by funext env H; exact f12_L0_eq S C n n env H
  rw [e0] at h1
  exact h1.trans (by kernel_rfl)


theorem f12_eq {E : Ext} (hE : E 12 = none) (n : Nat) (x0 : Value) (H : Heap) : acall Tryd.prog true E (n + 1) 12 [x0] H = f12 real (acall Tryd.prog true E n) n x0 H :=
  (acall_eq (N := 65) Tryd.func12 (by kernel_rfl) (by kernel_rfl) hE (by kernel_rfl) (by kernel_rfl)).trans (f12_main real _ n x0 H)

/-! incunable/incunableref14.Same -/
noncomputable def f13_c : Code := (Tryd.f13.body).getD .skip

noncomputable def f13_L0 (S : Seam (Value × Heap)) (C : CallF) (n : Nat) : Nat → Value → Value → Value → Heap → Option (Value × Heap)
 | 0, _, _, _, _ => none
 | m + 1, x0_7, x1_8, x5_9, H10 =>
   S.b (up (lenS x0_7) H10) fun x13_11 H12 =>
   S.b (up (binB Tryd.prog .lss 3 x5_9 x13_11) H12) fun x14_13 H14 =>
   S.i x14_13
   (S.b (up (iAddrS 3 x0_7 x5_9) H14) fun x19_15 H16 =>
    S.c true (S.b (ldA 3 x19_15 H16) fun x20_17 H18 =>
    S.b (up (iAddrS 3 x1_8 x5_9) H18) fun x23_19 H20 =>
    S.c true (S.b (ldA 3 x23_19 H20) fun x24_21 H22 =>
    S.b (up (binB Tryd.prog .neq 33 x20_17 x24_21) H22) fun x25_23 H24 =>
    S.i x25_23
    (some ((.bool false), H24))
    (S.b (up (binB Tryd.prog .add 3 x5_9 (.int .i64 1)) H24) fun x16_25 H26 =>
     f13_L0 S C n m x0_7 x1_8 x16_25 H26))))
   (some ((.bool true), H14))

theorem f13_L0_eq (S : Seam (Value × Heap)) (C : CallF) (n : Nat) : ∀ (m : Nat) (env : Env) (H : Heap), aloopK (acodeK S Tryd.prog C n 26 (cAt f13_c [1, 1, 0, 1, 0, 0])) m env H (kAt S Tryd.prog C n 26 f13_c [1, 1, 0, 1, 0] (fin Tryd.prog Tryd.f13)) = f13_L0 S C n m (env 0) (env 1) (env 5) H := by
  intro m env H
  refine aloopK_eq (L := fun m env H => f13_L0 S C n m (env 0) (env 1) (env 5) H) (fun env H => rfl) (fun m env H => ?_) m env H
  kernel_rfl


noncomputable def f13 (S : Seam (Value × Heap)) (C : CallF) (n : Nat) (x0 : Value) (x1 : Value) (H : Heap) : Option (Value × Heap) :=
 S.b (up (lenS x0) H) fun x7_1 H2 =>
 S.b (up (lenS x1) H2) fun x9_3 H4 =>
 S.b (up (binB Tryd.prog .neq 3 x7_1 x9_3) H4) fun x10_5 H6 =>
 S.i x10_5
 (some ((.bool false), H6))
 (f13_L0 S C n n x0 x1 (.int .i64 0) H6)

noncomputable def f13G (S : Seam (Value × Heap)) (C : CallF) (n : Nat) (P0 : Env → Heap → Option (Value × Heap)) (x0 : Value) (x1 : Value) (H : Heap) : Option (Value × Heap) :=
 S.b (up (lenS x0) H) fun x7_27 H28 =>
 S.b (up (lenS x1) H28) fun x9_29 H30 =>
 S.b (up (binB Tryd.prog .neq 3 x7_27 x9_29) H30) fun x10_31 H32 =>
 S.i x10_31
 (some ((.bool false), H32))
 (P0 (putE 26 (putE 26 (putE 26 (putE 26 (putE 26 (putE 26 (putE 26 (env0 [x0, x1]) (some 4) (.bool false)) (some 6) x0) (some 7) x7_27) (some 8) x1) (some 9) x9_29) (some 10) x10_31) (some 5) (.int .i64 0)) H32)

theorem f13_main (S : Seam (Value × Heap)) (C : CallF) (n : Nat) (x0 : Value) (x1 : Value) (H : Heap) : acodeK S Tryd.prog C n 26 f13_c (env0 [x0, x1]) H (fin Tryd.prog Tryd.f13) = f13 S C n x0 x1 H := by
  have h1 : acodeK S Tryd.prog C n 26 f13_c (env0 [x0, x1]) H (fin Tryd.prog Tryd.f13) = f13G S C n (fun env H => aloopK (acodeK S Tryd.prog C n 26 (cAt f13_c [1, 1, 0, 1, 0, 0])) n env H (kAt S Tryd.prog C n 26 f13_c [1, 1, 0, 1, 0] (fin Tryd.prog Tryd.f13))) x0 x1 H := by kernel_rfl
  have e0 : (fun env H => aloopK (acodeK S Tryd.prog C n 26 (cAt f13_c [1, 1, 0, 1, 0, 0])) n env H (kAt S Tryd.prog C n 26 f13_c [1, 1, 0, 1, 0] (fin Tryd.prog Tryd.f13))) = (fun env H => f13_L0 S C n n (env 0) (env 1) (env 5) H) := by funext env H; exact f13_L0_eq S C n n env H
  rw [e0] at h1
  exact h1.trans (by kernel_rfl)


theorem f13_eq {E : Ext} (hE : E 13 = none) (n : Nat) (x0 : Value) (x1 : Value) (H : Heap) : acall Tryd.prog true E (n + 1) 13 [x0, x1] H = f13 real (acall Tryd.prog true E n) n x0 x1 H :=
  (acall_eq (N := 26) Tryd.func13 (by kernel_rfl) (by kernel_rfl) hE (by kernel_rfl) (by kernel_rfl)).trans (f13_main real _ n x0 x1 H)

/-! incunable/incunableref00.EqBytes -/
noncomputable def f14_c : Code := (Tryd.f14.body).getD .skip

noncomputable def f14_L0 (S : Seam (Value × Heap)) (C : CallF) (n : Nat) : Nat → Value → Value → Value → Heap → Option (Value × Heap)
 | 0, _, _, _, _ => none
 | m + 1, x0_7, x1_8, x5_9, H10 =>
   S.b (up (lenS x0_7) H10) fun x13_11 H12 =>
   S.b (up (binB Tryd.prog .lss 3 x5_9 x13_11) H12) fun x14_13 H14 =>
   S.i x14_13
   (S.b (up (iAddrS 1 x0_7 x5_9) H14) fun x19_15 H16 =>
    S.c true (S.b (ldC x19_15 H16) fun x20_17 H18 =>
    S.b (up (iAddrS 1 x1_8 x5_9) H18) fun x23_19 H20 =>
    S.c true (S.b (ldC x23_19 H20) fun x24_21 H22 =>
    S.b (up (binB Tryd.prog .neq 5 x20_17 x24_21) H22) fun x25_23 H24 =>
    S.i x25_23
    (some ((.bool false), H24))
    (S.b (up (binB Tryd.prog .add 3 x5_9 (.int .i64 1)) H24) fun x16_25 H26 =>
     f14_L0 S C n m x0_7 x1_8 x16_25 H26))))
   (some ((.bool true), H14))

theorem f14_L0_eq (S : Seam (Value × Heap)) (C : CallF) (n : Nat) : ∀ (m : Nat) (env : Env) (H : Heap), aloopK (acodeK S Tryd.prog C n 26 (cAt f14_c [1, 1, 0, 1, 0, 0])) m env H (kAt S Tryd.prog C n 26 f14_c [1, 1, 0, 1, 0] (fin Tryd.prog Tryd.f14)) = f14_L0 S C n m (env 0) (env 1) (env 5) H := by
  intro m env H
  refine aloopK_eq (L := fun m env H => f14_L0 S C n m (env 0) (env 1) (env 5) H) (fun env H => rfl) (fun m env H => ?_) m env H
  kernel_rfl


noncomputable def f14 (S : Seam (Value × Heap)) (C : CallF) (n : Nat) (x0 : Value) (x1 : Value) (H : Heap) : Option (Value × Heap) :=
 S.b (up (lenS x0) H) fun x7_1 H2 =>
 S.b (up (lenS x1) H2) fun x9_3 H4 =>
 S.b (up (binB Tryd.prog .neq 3 x7_1 x9_3) H4) fun x10_5 H6 =>
 S.i x10_5
 (some ((.bool false), H6))
 (f14_L0 S C n n x0 x1 (.int .i64 0) H6)

noncomputable def f14G (S : Seam (Value × Heap)) (C : CallF) (n : Nat) (P0 : Env → Heap → Option (Value × Heap)) (x0 : Value) (x1 : Value) (H : Heap) : Option (Value × Heap) :=
 S.b (up (lenS x0) H) fun x7_27 H28 =>
 S.b (up (lenS x1) H28) fun x9_29 H30 =>
 S.b (up (binB Tryd.prog .neq 3 x7_27 x9_29) H30) fun x10_31 H32 =>
 S.i x10_31
 (some ((.bool false), H32))
 (P0 (putE 26 (putE 26 (putE 26 (putE 26 (putE 26 (putE 26 (putE 26 (env0 [x0, x1]) (some 4) (.bool false)) (some 6) x0) (some 7) x7_27) (some 8) x1) (some 9) x9_29) (some 10) x10_31) (some 5) (.int .i64 0)) H32)

theorem f14_main (S : Seam (Value × Heap)) (C : CallF) (n : Nat) (x0 : Value) (x1 : Value) (H : Heap) : acodeK S Tryd.prog C n 26 f14_c (env0 [x0, x1]) H (fin Tryd.prog Tryd.f14) = f14 S C n x0 x1 H := by
  have h1 : acodeK S Tryd.prog C n 26 f14_c (env0 [x0, x1]) H (fin Tryd.prog Tryd.f14) = f14G S C n (fun env H => aloopK (acodeK S Tryd.prog C n 26 (cAt f14_c [1, 1, 0, 1, 0, 0])) n env H (kAt S Tryd.prog C n 26 f14_c [1, 1, 0, 1, 0] (fin Tryd.prog Tryd.f14))) x0 x1 H := by kernel_rfl
  have e0 : (fun env H => aloopK (acodeK S Tryd.prog C n 26 (cAt f14_c [1, 1, 0, 1, 0, 0])) n env H (kAt S Tryd.prog C n 26 f14_c [1, 1, 0, 1, 0] (fin Tryd.prog Tryd.f14))) = (fun env H => f14_L0 S C n n (env 0) (env 1) (env 5) H) := by funext env H; exact f14_L0_eq S C n n env H
  rw [e0] at h1
  exact h1.trans (by kernel_rfl)


theorem f14_eq {E : Ext} (hE : E 14 = none) (n : Nat) (x0 : Value) (x1 : Value) (H : Heap) : acall Tryd.prog true E (n + 1) 14 [x0, x1] H = f14 real (acall Tryd.prog true E n) n x0 x1 H :=
  (acall_eq (N := 26) Tryd.func14 (by kernel_rfl) (by kernel_rfl) hE (by kernel_rfl) (by kernel_rfl)).trans (f14_main real _ n x0 x1 H)

/-! incunable/incunablelaw14.awake -/
noncomputable def f15_c : Code := (Tryd.f15.body).getD .skip

noncomputable def f15 (S : Seam (Value × Heap)) (C : CallF) (n : Nat) (H : Heap) : Option (Value × Heap) :=
 S.b (bldS 1 15 [(.int .i64 0)] [(0, 1, (.int .i64 7)), (1, 1, (.int .i64 0)), (2, 1, (.int .i64 4)), (3, 1, (.int .i64 1)), (4, 1, (.int .i64 5)), (5, 1, (.int .i64 6)), (6, 1, (.int .i64 4)), (7, 1, (.int .i64 7)), (8, 1, (.int .i64 8)), (9, 1, (.int .i64 3)), (10, 1, (.int .i64 9)), (11, 1, (.int .i64 17)), (12, 1, (.int .i64 4)), (13, 1, (.int .i64 17)), (14, 1, (.int .i64 18))] H) fun x3_1 H2 =>
 S.b (C 34 [(.string ⟨#[116, 101, 114, 109, 32, 110, 32, 61, 32, 47, 91, 48, 45, 57, 93, 43, 47, 59]⟩), x3_1] H2) fun x4_3 H4 =>
 S.b (bldS 1 9 [(.int .i64 0)] [(0, 1, (.int .i64 5)), (1, 1, (.int .i64 0)), (2, 1, (.int .i64 6)), (3, 1, (.int .i64 2)), (4, 1, (.int .i64 7)), (5, 1, (.int .i64 14)), (6, 1, (.int .i64 4)), (7, 1, (.int .i64 14)), (8, 1, (.int .i64 15))] H4) fun x5_5 H6 =>
 S.b (C 34 [(.string ⟨#[105, 109, 112, 111, 114, 116, 32, 34, 97, 47, 98, 46, 103, 34, 59, 32, 35, 32, 120]⟩), x5_5] H6) fun x6_7 H8 =>
 S.b (gd (wd x4_3 true) (some (x6_7, H8)) H8) fun x9_9 H10 =>
 S.b (pickV x4_3 x9_9 (.bool false) H10) fun x10_11 H12 =>
 S.b (gd (wd x10_11 true) (C 35 [(.string ⟨#[114, 117, 108, 101, 115, 32, 58, 32, 57]⟩), (.int .i64 8)] H12) H12) fun x12_13 H14 =>
 S.b (pickV x10_11 x12_13 (.bool false) H14) fun x13_15 H16 =>
 S.b (gd (wd x13_15 true) (C 35 [(.string ⟨#[47, 97, 92, 47, 98, 47, 32, 47, 97]⟩), (.int .i64 7)] H16) H16) fun x15_17 H18 =>
 S.b (pickV x13_15 x15_17 (.bool false) H18) fun x16_19 H20 =>
 S.b (gd (wd x16_19 true) (C 26 [(.int .i64 12)] H20) H20) fun x18_21 H22 =>
 S.b (gd (wd x16_19 true) (up (binB Tryd.prog .eql 9 x18_21 (.string ⟨#[114, 117, 108, 101]⟩)) H22) H22) fun x19_23 H24 =>
 S.b (pickV x16_19 x19_23 (.bool false) H24) fun x20_25 H26 =>
 some (x20_25, H26)

theorem f15_main (S : Seam (Value × Heap)) (C : CallF) (n : Nat) (H : Heap) : acodeK S Tryd.prog C n 21 f15_c (env0 []) H (fin Tryd.prog Tryd.f15) = f15 S C n H := by
  kernel_rfl


theorem f15_eq {E : Ext} (hE : E 15 = none) (n : Nat) (H : Heap) : acall Tryd.prog true E (n + 1) 15 [] H = f15 real (acall Tryd.prog true E n) n H :=
  (acall_eq (N := 21) Tryd.func15 (by kernel_rfl) (by kernel_rfl) hE (by kernel_rfl) (by kernel_rfl)).trans (f15_main real _ n H)

/-! incunable/incunablelaw14.between -/
noncomputable def f16_c : Code := (Tryd.f16.body).getD .skip

noncomputable def f16_J1 (S : Seam (Value × Heap)) (C : CallF) (n : Nat) (R0 : Value→Value→Value→Heap→Option (Value × Heap)) (x0_22 x3_23 x4_24 x5_25 : Value) (H26 : Heap) : Option (Value × Heap) :=
 S.b (up (unB .not x3_23) H26) fun x21_27 H28 =>
 S.b (gd (wd x21_27 true) (some (x5_25, H28)) H28) fun x23_29 H30 =>
 S.b (gd (wd x21_27 true) (up (binB Tryd.prog .neq 5 x23_29 (.int .u8 32)) H30) H30) fun x24_31 H32 =>
 S.b (pickV x21_27 x24_31 (.bool false) H32) fun x25_33 H34 =>
 S.b (gd (wd x25_33 true) (some (x5_25, H34)) H34) fun x27_35 H36 =>
 S.b (gd (wd x25_33 true) (up (binB Tryd.prog .neq 5 x27_35 (.int .u8 9)) H36) H36) fun x28_37 H38 =>
 S.b (pickV x25_33 x28_37 (.bool false) H38) fun x29_39 H40 =>
 S.b (gd (wd x29_39 true) (some (x5_25, H40)) H40) fun x31_41 H42 =>
 S.b (gd (wd x29_39 true) (up (binB Tryd.prog .neq 5 x31_41 (.int .u8 10)) H42) H42) fun x32_43 H44 =>
 S.b (pickV x29_39 x32_43 (.bool false) H44) fun x33_45 H46 =>
 S.b (gd (wd x33_45 true) (some (x5_25, H46)) H46) fun x35_47 H48 =>
 S.b (gd (wd x33_45 true) (up (binB Tryd.prog .neq 5 x35_47 (.int .u8 13)) H48) H48) fun x36_49 H50 =>
 S.b (pickV x33_45 x36_49 (.bool false) H50) fun x37_51 H52 =>
 S.i x37_51
 (some ((.bool false), H52))
 (S.b (up (binB Tryd.prog .add 3 x4_24 (.int .i64 1)) H52) fun x11_53 H54 =>
  R0 x0_22 x3_23 x11_53 H54)

noncomputable def f16_J2 (S : Seam (Value × Heap)) (C : CallF) (n : Nat) (R0 : Value→Value→Value→Heap→Option (Value × Heap)) (x0_15 x3_16 x4_17 x5_18 : Value) (H19 : Heap) : Option (Value × Heap) :=
 S.b (up (binB Tryd.prog .eql 5 x5_18 (.int .u8 10)) H19) fun x19_20 H21 =>
 S.i x19_20
 (f16_J1 S C n R0 x0_15 (.bool false) x4_17 x5_18 H21)
 (f16_J1 S C n R0 x0_15 x3_16 x4_17 x5_18 H21)

noncomputable def f16_L0 (S : Seam (Value × Heap)) (C : CallF) (n : Nat) : Nat → Value → Value → Value → Heap → Option (Value × Heap)
 | 0, _, _, _, _ => none
 | m + 1, x0_1, x3_2, x4_3, H4 =>
   S.b (up (lenS x0_1) H4) fun x8_5 H6 =>
   S.b (up (binB Tryd.prog .lss 3 x4_3 x8_5) H6) fun x9_7 H8 =>
   S.i x9_7
   (S.b (up (iAddrS 1 x0_1 x4_3) H8) fun x14_9 H10 =>
    S.b (ldC x14_9 H10) fun x15_11 H12 =>
    S.b (up (binB Tryd.prog .eql 5 x15_11 (.int .u8 35)) H12) fun x17_13 H14 =>
    S.i x17_13
    (f16_J2 S C n (f16_L0 S C n m) x0_1 (.bool true) x4_3 x15_11 H14)
    (f16_J2 S C n (f16_L0 S C n m) x0_1 x3_2 x4_3 x15_11 H14))
   (some ((.bool true), H8))

theorem f16_L0_eq (S : Seam (Value × Heap)) (C : CallF) (n : Nat) : ∀ (m : Nat) (env : Env) (H : Heap), aloopK (acodeK S Tryd.prog C n 38 (cAt f16_c [1, 1, 0, 1, 0, 0])) m env H (kAt S Tryd.prog C n 38 f16_c [1, 1, 0, 1, 0] (fin Tryd.prog Tryd.f16)) = f16_L0 S C n m (env 0) (env 3) (env 4) H := by
  intro m env H
  refine aloopK_eq (L := fun m env H => f16_L0 S C n m (env 0) (env 3) (env 4) H) (fun env H => rfl) (fun m env H => ?_) m env H
  kernel_rfl


noncomputable def f16 (S : Seam (Value × Heap)) (C : CallF) (n : Nat) (x0 : Value) (H : Heap) : Option (Value × Heap) :=
 f16_L0 S C n n x0 (.bool false) (.int .i64 0) H

noncomputable def f16G (S : Seam (Value × Heap)) (C : CallF) (n : Nat) (P0 : Env → Heap → Option (Value × Heap)) (x0 : Value) (H : Heap) : Option (Value × Heap) :=
 P0 (putE 38 (putE 38 (putE 38 (env0 [x0]) (some 2) (.bool false)) (some 3) (.bool false)) (some 4) (.int .i64 0)) H

theorem f16_main (S : Seam (Value × Heap)) (C : CallF) (n : Nat) (x0 : Value) (H : Heap) : acodeK S Tryd.prog C n 38 f16_c (env0 [x0]) H (fin Tryd.prog Tryd.f16) = f16 S C n x0 H := by
  have h1 : acodeK S Tryd.prog C n 38 f16_c (env0 [x0]) H (fin Tryd.prog Tryd.f16) = f16G S C n (fun env H => aloopK (acodeK S Tryd.prog C n 38 (cAt f16_c [1, 1, 0, 1, 0, 0])) n env H (kAt S Tryd.prog C n 38 f16_c [1, 1, 0, 1, 0] (fin Tryd.prog Tryd.f16))) x0 H := by kernel_rfl
  have e0 : (fun env H => aloopK (acodeK S Tryd.prog C n 38 (cAt f16_c [1, 1, 0, 1, 0, 0])) n env H (kAt S Tryd.prog C n 38 f16_c [1, 1, 0, 1, 0] (fin Tryd.prog Tryd.f16))) = (fun env H => f16_L0 S C n n (env 0) (env 3) (env 4) H) := by funext env H; exact f16_L0_eq S C n n env H
  rw [e0] at h1
  exact h1.trans (by kernel_rfl)


theorem f16_eq {E : Ext} (hE : E 16 = none) (n : Nat) (x0 : Value) (H : Heap) : acall Tryd.prog true E (n + 1) 16 [x0] H = f16 real (acall Tryd.prog true E n) n x0 H :=
  (acall_eq (N := 38) Tryd.func16 (by kernel_rfl) (by kernel_rfl) hE (by kernel_rfl) (by kernel_rfl)).trans (f16_main real _ n x0 H)

/-! incunable/incunableref00.Bring -/
noncomputable def f17_c : Code := (Tryd.f17.body).getD .skip

noncomputable def f17 (S : Seam (Value × Heap)) (C : CallF) (n : Nat) (x0 : Value) (x1 : Value) (H : Heap) : Option (Value × Heap) :=
 S.b (up (binB Tryd.prog .leq 3 x1 (.int .i64 0)) H) fun x6_1 H2 =>
 S.i x6_1
 (some ((.int .i64 0), H2))
 (S.b (up (binB Tryd.prog .rem 3 x0 x1) H2) fun x9_3 H4 =>
  S.b (up (binB Tryd.prog .lss 3 x9_3 (.int .i64 0)) H4) fun x11_5 H6 =>
  S.i x11_5
  (S.b (up (binB Tryd.prog .add 3 x9_3 x1) H6) fun x14_7 H8 =>
   some (x14_7, H8))
  (some (x9_3, H6)))

theorem f17_main (S : Seam (Value × Heap)) (C : CallF) (n : Nat) (x0 : Value) (x1 : Value) (H : Heap) : acodeK S Tryd.prog C n 16 f17_c (env0 [x0, x1]) H (fin Tryd.prog Tryd.f17) = f17 S C n x0 x1 H := by
  kernel_rfl


theorem f17_eq {E : Ext} (hE : E 17 = none) (n : Nat) (x0 : Value) (x1 : Value) (H : Heap) : acall Tryd.prog true E (n + 1) 17 [x0, x1] H = f17 real (acall Tryd.prog true E n) n x0 x1 H :=
  (acall_eq (N := 16) Tryd.func17 (by kernel_rfl) (by kernel_rfl) hE (by kernel_rfl) (by kernel_rfl)).trans (f17_main real _ n x0 x1 H)

/-! incunable/incunableref00.EqInts -/
noncomputable def f18_c : Code := (Tryd.f18.body).getD .skip

noncomputable def f18_L0 (S : Seam (Value × Heap)) (C : CallF) (n : Nat) : Nat → Value → Value → Value → Heap → Option (Value × Heap)
 | 0, _, _, _, _ => none
 | m + 1, x0_7, x1_8, x5_9, H10 =>
   S.b (up (lenS x0_7) H10) fun x13_11 H12 =>
   S.b (up (binB Tryd.prog .lss 3 x5_9 x13_11) H12) fun x14_13 H14 =>
   S.i x14_13
   (S.b (up (iAddrS 1 x0_7 x5_9) H14) fun x19_15 H16 =>
    S.c true (S.b (ldC x19_15 H16) fun x20_17 H18 =>
    S.b (up (iAddrS 1 x1_8 x5_9) H18) fun x23_19 H20 =>
    S.c true (S.b (ldC x23_19 H20) fun x24_21 H22 =>
    S.b (up (binB Tryd.prog .neq 3 x20_17 x24_21) H22) fun x25_23 H24 =>
    S.i x25_23
    (some ((.bool false), H24))
    (S.b (up (binB Tryd.prog .add 3 x5_9 (.int .i64 1)) H24) fun x16_25 H26 =>
     f18_L0 S C n m x0_7 x1_8 x16_25 H26))))
   (some ((.bool true), H14))

theorem f18_L0_eq (S : Seam (Value × Heap)) (C : CallF) (n : Nat) : ∀ (m : Nat) (env : Env) (H : Heap), aloopK (acodeK S Tryd.prog C n 26 (cAt f18_c [1, 1, 0, 1, 0, 0])) m env H (kAt S Tryd.prog C n 26 f18_c [1, 1, 0, 1, 0] (fin Tryd.prog Tryd.f18)) = f18_L0 S C n m (env 0) (env 1) (env 5) H := by
  intro m env H
  refine aloopK_eq (L := fun m env H => f18_L0 S C n m (env 0) (env 1) (env 5) H) (fun env H => rfl) (fun m env H => ?_) m env H
  kernel_rfl


noncomputable def f18 (S : Seam (Value × Heap)) (C : CallF) (n : Nat) (x0 : Value) (x1 : Value) (H : Heap) : Option (Value × Heap) :=
 S.b (up (lenS x0) H) fun x7_1 H2 =>
 S.b (up (lenS x1) H2) fun x9_3 H4 =>
 S.b (up (binB Tryd.prog .neq 3 x7_1 x9_3) H4) fun x10_5 H6 =>
 S.i x10_5
 (some ((.bool false), H6))
 (f18_L0 S C n n x0 x1 (.int .i64 0) H6)

noncomputable def f18G (S : Seam (Value × Heap)) (C : CallF) (n : Nat) (P0 : Env → Heap → Option (Value × Heap)) (x0 : Value) (x1 : Value) (H : Heap) : Option (Value × Heap) :=
 S.b (up (lenS x0) H) fun x7_27 H28 =>
 S.b (up (lenS x1) H28) fun x9_29 H30 =>
 S.b (up (binB Tryd.prog .neq 3 x7_27 x9_29) H30) fun x10_31 H32 =>
 S.i x10_31
 (some ((.bool false), H32))
 (P0 (putE 26 (putE 26 (putE 26 (putE 26 (putE 26 (putE 26 (putE 26 (env0 [x0, x1]) (some 4) (.bool false)) (some 6) x0) (some 7) x7_27) (some 8) x1) (some 9) x9_29) (some 10) x10_31) (some 5) (.int .i64 0)) H32)

theorem f18_main (S : Seam (Value × Heap)) (C : CallF) (n : Nat) (x0 : Value) (x1 : Value) (H : Heap) : acodeK S Tryd.prog C n 26 f18_c (env0 [x0, x1]) H (fin Tryd.prog Tryd.f18) = f18 S C n x0 x1 H := by
  have h1 : acodeK S Tryd.prog C n 26 f18_c (env0 [x0, x1]) H (fin Tryd.prog Tryd.f18) = f18G S C n (fun env H => aloopK (acodeK S Tryd.prog C n 26 (cAt f18_c [1, 1, 0, 1, 0, 0])) n env H (kAt S Tryd.prog C n 26 f18_c [1, 1, 0, 1, 0] (fin Tryd.prog Tryd.f18))) x0 x1 H := by kernel_rfl
  have e0 : (fun env H => aloopK (acodeK S Tryd.prog C n 26 (cAt f18_c [1, 1, 0, 1, 0, 0])) n env H (kAt S Tryd.prog C n 26 f18_c [1, 1, 0, 1, 0] (fin Tryd.prog Tryd.f18))) = (fun env H => f18_L0 S C n n (env 0) (env 1) (env 5) H) := by funext env H; exact f18_L0_eq S C n n env H
  rw [e0] at h1
  exact h1.trans (by kernel_rfl)


theorem f18_eq {E : Ext} (hE : E 18 = none) (n : Nat) (x0 : Value) (x1 : Value) (H : Heap) : acall Tryd.prog true E (n + 1) 18 [x0, x1] H = f18 real (acall Tryd.prog true E n) n x0 x1 H :=
  (acall_eq (N := 26) Tryd.func18 (by kernel_rfl) (by kernel_rfl) hE (by kernel_rfl) (by kernel_rfl)).trans (f18_main real _ n x0 x1 H)

/-! incunable/incunablelaw14.kinds -/
noncomputable def f19_c : Code := (Tryd.f19.body).getD .skip

noncomputable def f19_L0 (S : Seam (Value × Heap)) (C : CallF) (n : Nat) : Nat → Value → Value → Value → Heap → Option (Value × Heap)
 | 0, _, _, _, _ => none
 | m + 1, x0_1, x3_2, x4_3, H4 =>
   S.b (up (lenS x0_1) H4) fun x7_5 H6 =>
   S.b (up (binB Tryd.prog .lss 3 x4_3 x7_5) H6) fun x8_7 H8 =>
   S.i x8_7
   (S.b (up (iAddrS 3 x0_1 x4_3) H8) fun x14_9 H10 =>
    S.b (up (fAddr 0 x14_9) H10) fun x15_11 H12 =>
    S.b (ldC x15_11 H12) fun x16_13 H14 =>
    S.b (bldS 1 1 [(.int .i64 0)] [(0, 1, x16_13)] H14) fun x17_15 H16 =>
    S.b (app 1 8 x3_2 x17_15 H16) fun x18_17 H18 =>
    S.b (up (binB Tryd.prog .add 3 x4_3 (.int .i64 1)) H18) fun x10_19 H20 =>
    f19_L0 S C n m x0_1 x18_17 x10_19 H20)
   (some (x3_2, H8))

theorem f19_L0_eq (S : Seam (Value × Heap)) (C : CallF) (n : Nat) : ∀ (m : Nat) (env : Env) (H : Heap), aloopK (acodeK S Tryd.prog C n 20 (cAt f19_c [1, 1, 0, 1, 0, 0])) m env H (kAt S Tryd.prog C n 20 f19_c [1, 1, 0, 1, 0] (fin Tryd.prog Tryd.f19)) = f19_L0 S C n m (env 0) (env 3) (env 4) H := by
  intro m env H
  refine aloopK_eq (L := fun m env H => f19_L0 S C n m (env 0) (env 3) (env 4) H) (fun env H => rfl) (fun m env H => ?_) m env H
  kernel_rfl


noncomputable def f19 (S : Seam (Value × Heap)) (C : CallF) (n : Nat) (x0 : Value) (H : Heap) : Option (Value × Heap) :=
 f19_L0 S C n n x0 (.slice none 0 0) (.int .i64 0) H

noncomputable def f19G (S : Seam (Value × Heap)) (C : CallF) (n : Nat) (P0 : Env → Heap → Option (Value × Heap)) (x0 : Value) (H : Heap) : Option (Value × Heap) :=
 P0 (putE 20 (putE 20 (putE 20 (env0 [x0]) (some 2) (.slice none 0 0)) (some 3) (.slice none 0 0)) (some 4) (.int .i64 0)) H

theorem f19_main (S : Seam (Value × Heap)) (C : CallF) (n : Nat) (x0 : Value) (H : Heap) : acodeK S Tryd.prog C n 20 f19_c (env0 [x0]) H (fin Tryd.prog Tryd.f19) = f19 S C n x0 H := by
  have h1 : acodeK S Tryd.prog C n 20 f19_c (env0 [x0]) H (fin Tryd.prog Tryd.f19) = f19G S C n (fun env H => aloopK (acodeK S Tryd.prog C n 20 (cAt f19_c [1, 1, 0, 1, 0, 0])) n env H (kAt S Tryd.prog C n 20 f19_c [1, 1, 0, 1, 0] (fin Tryd.prog Tryd.f19))) x0 H := by kernel_rfl
  have e0 : (fun env H => aloopK (acodeK S Tryd.prog C n 20 (cAt f19_c [1, 1, 0, 1, 0, 0])) n env H (kAt S Tryd.prog C n 20 f19_c [1, 1, 0, 1, 0] (fin Tryd.prog Tryd.f19))) = (fun env H => f19_L0 S C n n (env 0) (env 3) (env 4) H) := by funext env H; exact f19_L0_eq S C n n env H
  rw [e0] at h1
  exact h1.trans (by kernel_rfl)


theorem f19_eq {E : Ext} (hE : E 19 = none) (n : Nat) (x0 : Value) (H : Heap) : acall Tryd.prog true E (n + 1) 19 [x0] H = f19 real (acall Tryd.prog true E n) n x0 H :=
  (acall_eq (N := 20) Tryd.func19 (by kernel_rfl) (by kernel_rfl) hE (by kernel_rfl) (by kernel_rfl)).trans (f19_main real _ n x0 H)

/-! incunable/words.IsName -/
noncomputable def f20_c : Code := (Tryd.f20.body).getD .skip

noncomputable def f20 (S : Seam (Value × Heap)) (C : CallF) (n : Nat) (x0 : Value) (H : Heap) : Option (Value × Heap) :=
 S.b (up (binB Tryd.prog .neq 9 x0 (.string ⟨#[]⟩)) H) fun x4_1 H2 =>
 S.b (gd (wd x4_1 true) (some (x0, H2)) H2) fun x6_3 H4 =>
 S.b (gd (wd x4_1 true) (up (lenStr x6_3) H4) H4) fun x7_5 H6 =>
 S.b (gd (wd x4_1 true) (up (binB Tryd.prog .leq 3 x7_5 (.int .i64 24)) H6) H6) fun x8_7 H8 =>
 S.b (pickV x4_1 x8_7 (.bool false) H8) fun x9_9 H10 =>
 S.b (gd (wd x9_9 true) (some (x0, H10)) H10) fun x11_11 H12 =>
 S.b (gd (wd x9_9 true) (up (idxS x11_11 (.int .i64 0)) H12) H12) fun x12_13 H14 =>
 S.b (gd (wd x9_9 true) (C 36 [x12_13] H14) H14) fun x13_15 H16 =>
 S.b (gd (wd x9_9 true) (up (unB .not x13_15) H16) H16) fun x14_17 H18 =>
 S.b (pickV x9_9 x14_17 (.bool false) H18) fun x15_19 H20 =>
 S.b (gd (wd x15_19 true) (some (x0, H20)) H20) fun x17_21 H22 =>
 S.b (gd (wd x15_19 true) (C 37 [x17_21] H22) H22) fun x18_23 H24 =>
 S.b (gd (wd x15_19 true) (some (x0, H24)) H24) fun x19_25 H26 =>
 S.b (gd (wd x15_19 true) (up (lenStr x19_25) H26) H26) fun x20_27 H28 =>
 S.b (gd (wd x15_19 true) (up (binB Tryd.prog .eql 3 x18_23 x20_27) H28) H28) fun x21_29 H30 =>
 S.b (pickV x15_19 x21_29 (.bool false) H30) fun x22_31 H32 =>
 S.b (gd (wd x22_31 true) (up (slcA 9 1 (.pointer (some ⟨0, 0, none⟩)) none none none) H32) H32) fun x24_33 H34 =>
 S.b (gd (wd x22_31 true) (some (x0, H34)) H34) fun x25_35 H36 =>
 S.b (gd (wd x22_31 true) (C 38 [x24_33, x25_35] H36) H36) fun x26_37 H38 =>
 S.b (gd (wd x22_31 true) (up (unB .not x26_37) H38) H38) fun x27_39 H40 =>
 S.b (pickV x22_31 x27_39 (.bool false) H40) fun x28_41 H42 =>
 some (x28_41, H42)

theorem f20_main (S : Seam (Value × Heap)) (C : CallF) (n : Nat) (x0 : Value) (H : Heap) : acodeK S Tryd.prog C n 29 f20_c (env0 [x0]) H (fin Tryd.prog Tryd.f20) = f20 S C n x0 H := by
  kernel_rfl


theorem f20_eq {E : Ext} (hE : E 20 = none) (n : Nat) (x0 : Value) (H : Heap) : acall Tryd.prog true E (n + 1) 20 [x0] H = f20 real (acall Tryd.prog true E n) n x0 H :=
  (acall_eq (N := 29) Tryd.func20 (by kernel_rfl) (by kernel_rfl) hE (by kernel_rfl) (by kernel_rfl)).trans (f20_main real _ n x0 H)

/-! incunable/incunableref14.IsName -/
noncomputable def f21_c : Code := (Tryd.f21.body).getD .skip

noncomputable def f21_L0 (S : Seam (Value × Heap)) (C : CallF) (n : Nat) : Nat → Value → Value → Heap → Option (Value × Heap)
 | 0, _, _, _ => none
 | m + 1, x0_19, x3_20, H21 =>
   S.b (up (lenStr x0_19) H21) fun x18_22 H23 =>
   S.b (up (binB Tryd.prog .lss 3 x3_20 x18_22) H23) fun x19_24 H25 =>
   S.i x19_24
   (S.b (up (idxS x0_19 x3_20) H25) fun x24_26 H27 =>
    S.b (C 41 [x24_26] H27) fun x25_28 H29 =>
    S.b (up (unB .not x25_28) H29) fun x26_30 H31 =>
    S.i x26_30
    (some ((.bool false), H31))
    (S.b (up (binB Tryd.prog .add 3 x3_20 (.int .i64 1)) H31) fun x21_32 H33 =>
     f21_L0 S C n m x0_19 x21_32 H33))
   (some ((.bool true), H25))

theorem f21_L0_eq (S : Seam (Value × Heap)) (C : CallF) (n : Nat) : ∀ (m : Nat) (env : Env) (H : Heap), aloopK (acodeK S Tryd.prog C n 27 (cAt f21_c [1, 1, 0, 1, 0, 0])) m env H (kAt S Tryd.prog C n 27 f21_c [1, 1, 0, 1, 0] (fin Tryd.prog Tryd.f21)) = f21_L0 S C n m (env 0) (env 3) H := by
  intro m env H
  refine aloopK_eq (L := fun m env H => f21_L0 S C n m (env 0) (env 3) H) (fun env H => rfl) (fun m env H => ?_) m env H
  kernel_rfl


noncomputable def f21 (S : Seam (Value × Heap)) (C : CallF) (n : Nat) (x0 : Value) (H : Heap) : Option (Value × Heap) :=
 S.b (up (binB Tryd.prog .eql 9 x0 (.string ⟨#[]⟩)) H) fun x5_1 H2 =>
 S.b (gd (wd x5_1 false) (some (x0, H2)) H2) fun x7_3 H4 =>
 S.b (gd (wd x5_1 false) (up (idxS x7_3 (.int .i64 0)) H4) H4) fun x8_5 H6 =>
 S.b (gd (wd x5_1 false) (C 39 [x8_5] H6) H6) fun x9_7 H8 =>
 S.b (pickV x5_1 (.bool true) x9_7 H8) fun x10_9 H10 =>
 S.b (gd (wd x10_9 false) (some (x0, H10)) H10) fun x12_11 H12 =>
 S.b (gd (wd x10_9 false) (C 40 [x12_11] H12) H12) fun x13_13 H14 =>
 S.b (gd (wd x10_9 false) (up (binB Tryd.prog .neq 3 x13_13 (.int .i64 1)) H14) H14) fun x14_15 H16 =>
 S.b (pickV x10_9 (.bool true) x14_15 H16) fun x15_17 H18 =>
 S.i x15_17
 (some ((.bool false), H18))
 (f21_L0 S C n n x0 (.int .i64 0) H18)

noncomputable def f21G (S : Seam (Value × Heap)) (C : CallF) (n : Nat) (P0 : Env → Heap → Option (Value × Heap)) (x0 : Value) (H : Heap) : Option (Value × Heap) :=
 S.b (up (binB Tryd.prog .eql 9 x0 (.string ⟨#[]⟩)) H) fun x5_34 H35 =>
 S.b (gd (wd x5_34 false) (some (x0, H35)) H35) fun x7_36 H37 =>
 S.b (gd (wd x5_34 false) (up (idxS x7_36 (.int .i64 0)) H37) H37) fun x8_38 H39 =>
 S.b (gd (wd x5_34 false) (C 39 [x8_38] H39) H39) fun x9_40 H41 =>
 S.b (pickV x5_34 (.bool true) x9_40 H41) fun x10_42 H43 =>
 S.b (gd (wd x10_42 false) (some (x0, H43)) H43) fun x12_44 H45 =>
 S.b (gd (wd x10_42 false) (C 40 [x12_44] H45) H45) fun x13_46 H47 =>
 S.b (gd (wd x10_42 false) (up (binB Tryd.prog .neq 3 x13_46 (.int .i64 1)) H47) H47) fun x14_48 H49 =>
 S.b (pickV x10_42 (.bool true) x14_48 H49) fun x15_50 H51 =>
 S.i x15_50
 (some ((.bool false), H51))
 (P0 (putE 27 (putE 27 (putE 27 (putE 27 (putE 27 (putE 27 (putE 27 (putE 27 (putE 27 (putE 27 (putE 27 (putE 27 (putE 27 (putE 27 (env0 [x0]) (some 2) (.bool false)) (some 4) x0) (some 5) x5_34) (some 6) x5_34) (some 7) x7_36) (some 8) x8_38) (some 9) x9_40) (some 10) x10_42) (some 11) x10_42) (some 12) x12_44) (some 13) x13_46) (some 14) x14_48) (some 15) x15_50) (some 3) (.int .i64 0)) H51)

theorem f21_main (S : Seam (Value × Heap)) (C : CallF) (n : Nat) (x0 : Value) (H : Heap) : acodeK S Tryd.prog C n 27 f21_c (env0 [x0]) H (fin Tryd.prog Tryd.f21) = f21 S C n x0 H := by
  have h1 : acodeK S Tryd.prog C n 27 f21_c (env0 [x0]) H (fin Tryd.prog Tryd.f21) = f21G S C n (fun env H => aloopK (acodeK S Tryd.prog C n 27 (cAt f21_c [1, 1, 0, 1, 0, 0])) n env H (kAt S Tryd.prog C n 27 f21_c [1, 1, 0, 1, 0] (fin Tryd.prog Tryd.f21))) x0 H := by kernel_rfl
  have e0 : (fun env H => aloopK (acodeK S Tryd.prog C n 27 (cAt f21_c [1, 1, 0, 1, 0, 0])) n env H (kAt S Tryd.prog C n 27 f21_c [1, 1, 0, 1, 0] (fin Tryd.prog Tryd.f21))) = (fun env H => f21_L0 S C n n (env 0) (env 3) H) := by funext env H; exact f21_L0_eq S C n n env H
  rw [e0] at h1
  exact h1.trans (by kernel_rfl)


theorem f21_eq {E : Ext} (hE : E 21 = none) (n : Nat) (x0 : Value) (H : Heap) : acall Tryd.prog true E (n + 1) 21 [x0] H = f21 real (acall Tryd.prog true E n) n x0 H :=
  (acall_eq (N := 27) Tryd.func21 (by kernel_rfl) (by kernel_rfl) hE (by kernel_rfl) (by kernel_rfl)).trans (f21_main real _ n x0 H)

/-! incunable/words.IsPath -/
noncomputable def f22_c : Code := (Tryd.f22.body).getD .skip

noncomputable def f22 (S : Seam (Value × Heap)) (C : CallF) (n : Nat) (x0 : Value) (H : Heap) : Option (Value × Heap) :=
 S.b (C 42 [x0, (.func (.func 43) #[] #[])] H) fun x5_1 H2 =>
 S.b (up (lenStr x0) H2) fun x7_3 H4 =>
 S.b (up (binB Tryd.prog .leq 3 (.int .i64 1) x7_3) H4) fun x8_5 H6 =>
 S.b (gd (wd x8_5 true) (some (x0, H6)) H6) fun x10_7 H8 =>
 S.b (gd (wd x8_5 true) (up (lenStr x10_7) H8) H8) fun x11_9 H10 =>
 S.b (gd (wd x8_5 true) (up (binB Tryd.prog .leq 3 x11_9 (.int .i64 32)) H10) H10) fun x12_11 H12 =>
 S.b (pickV x8_5 x12_11 (.bool false) H12) fun x13_13 H14 =>
 S.b (gd (wd x13_13 true) (some (x5_1, H14)) H14) fun x15_15 H16 =>
 S.b (gd (wd x13_13 true) (up (unB .not x15_15) H16) H16) fun x16_17 H18 =>
 S.b (pickV x13_13 x16_17 (.bool false) H18) fun x17_19 H20 =>
 some (x17_19, H20)

theorem f22_main (S : Seam (Value × Heap)) (C : CallF) (n : Nat) (x0 : Value) (H : Heap) : acodeK S Tryd.prog C n 18 f22_c (env0 [x0]) H (fin Tryd.prog Tryd.f22) = f22 S C n x0 H := by
  kernel_rfl


theorem f22_eq {E : Ext} (hE : E 22 = none) (n : Nat) (x0 : Value) (H : Heap) : acall Tryd.prog true E (n + 1) 22 [x0] H = f22 real (acall Tryd.prog true E n) n x0 H :=
  (acall_eq (N := 18) Tryd.func22 (by kernel_rfl) (by kernel_rfl) hE (by kernel_rfl) (by kernel_rfl)).trans (f22_main real _ n x0 H)

/-! incunable/incunableref14.IsPath -/
noncomputable def f23_c : Code := (Tryd.f23.body).getD .skip

noncomputable def f23_L0 (S : Seam (Value × Heap)) (C : CallF) (n : Nat) : Nat → Value → Value → Heap → Option (Value × Heap)
 | 0, _, _, _ => none
 | m + 1, x0_1, x3_2, H3 =>
   S.b (up (lenStr x0_1) H3) fun x7_4 H5 =>
   S.b (up (binB Tryd.prog .lss 3 x3_2 x7_4) H5) fun x8_6 H7 =>
   S.i x8_6
   (S.b (up (idxS x0_1 x3_2) H7) fun x13_8 H9 =>
    S.b (up (binB Tryd.prog .geq 5 x13_8 (.int .u8 97)) H9) fun x15_10 H11 =>
    S.b (gd (wd x15_10 true) (some (x13_8, H11)) H11) fun x17_12 H13 =>
    S.b (gd (wd x15_10 true) (up (binB Tryd.prog .leq 5 x17_12 (.int .u8 122)) H13) H13) fun x18_14 H15 =>
    S.b (pickV x15_10 x18_14 (.bool false) H15) fun x19_16 H17 =>
    S.b (gd (wd x19_16 false) (some (x13_8, H17)) H17) fun x21_18 H19 =>
    S.b (gd (wd x19_16 false) (C 39 [x21_18] H19) H19) fun x22_20 H21 =>
    S.b (pickV x19_16 (.bool true) x22_20 H21) fun x23_22 H23 =>
    S.b (gd (wd x23_22 false) (some (x13_8, H23)) H23) fun x25_24 H25 =>
    S.b (gd (wd x23_22 false) (up (binB Tryd.prog .eql 5 x25_24 (.int .u8 46)) H25) H25) fun x26_26 H27 =>
    S.b (pickV x23_22 (.bool true) x26_26 H27) fun x27_28 H29 =>
    S.b (gd (wd x27_28 false) (some (x13_8, H29)) H29) fun x29_30 H31 =>
    S.b (gd (wd x27_28 false) (up (binB Tryd.prog .eql 5 x29_30 (.int .u8 95)) H31) H31) fun x30_32 H33 =>
    S.b (pickV x27_28 (.bool true) x30_32 H33) fun x31_34 H35 =>
    S.b (gd (wd x31_34 false) (some (x13_8, H35)) H35) fun x33_36 H37 =>
    S.b (gd (wd x31_34 false) (up (binB Tryd.prog .eql 5 x33_36 (.int .u8 45)) H37) H37) fun x34_38 H39 =>
    S.b (pickV x31_34 (.bool true) x34_38 H39) fun x35_40 H41 =>
    S.b (gd (wd x35_40 false) (some (x13_8, H41)) H41) fun x37_42 H43 =>
    S.b (gd (wd x35_40 false) (up (binB Tryd.prog .eql 5 x37_42 (.int .u8 47)) H43) H43) fun x38_44 H45 =>
    S.b (pickV x35_40 (.bool true) x38_44 H45) fun x39_46 H47 =>
    S.b (up (unB .not x39_46) H47) fun x40_48 H49 =>
    S.i x40_48
    (some ((.bool false), H49))
    (S.b (up (binB Tryd.prog .add 3 x3_2 (.int .i64 1)) H49) fun x10_50 H51 =>
     f23_L0 S C n m x0_1 x10_50 H51))
   (S.b (up (lenStr x0_1) H7) fun x42_52 H53 =>
    S.b (up (binB Tryd.prog .geq 3 x42_52 (.int .i64 1)) H53) fun x43_54 H55 =>
    S.b (gd (wd x43_54 true) (some (x0_1, H55)) H55) fun x45_56 H57 =>
    S.b (gd (wd x43_54 true) (up (lenStr x45_56) H57) H57) fun x46_58 H59 =>
    S.b (gd (wd x43_54 true) (up (binB Tryd.prog .leq 3 x46_58 (.int .i64 32)) H59) H59) fun x47_60 H61 =>
    S.b (pickV x43_54 x47_60 (.bool false) H61) fun x48_62 H63 =>
    some (x48_62, H63))

theorem f23_L0_eq (S : Seam (Value × Heap)) (C : CallF) (n : Nat) : ∀ (m : Nat) (env : Env) (H : Heap), aloopK (acodeK S Tryd.prog C n 49 (cAt f23_c [1, 0, 1, 0, 0])) m env H (kAt S Tryd.prog C n 49 f23_c [1, 0, 1, 0] (fin Tryd.prog Tryd.f23)) = f23_L0 S C n m (env 0) (env 3) H := by
  intro m env H
  refine aloopK_eq (L := fun m env H => f23_L0 S C n m (env 0) (env 3) H) (fun env H => rfl) (fun m env H => ?_) m env H
  kernel_rfl


noncomputable def f23 (S : Seam (Value × Heap)) (C : CallF) (n : Nat) (x0 : Value) (H : Heap) : Option (Value × Heap) :=
 f23_L0 S C n n x0 (.int .i64 0) H

noncomputable def f23G (S : Seam (Value × Heap)) (C : CallF) (n : Nat) (P0 : Env → Heap → Option (Value × Heap)) (x0 : Value) (H : Heap) : Option (Value × Heap) :=
 P0 (putE 49 (putE 49 (env0 [x0]) (some 2) (.bool false)) (some 3) (.int .i64 0)) H

theorem f23_main (S : Seam (Value × Heap)) (C : CallF) (n : Nat) (x0 : Value) (H : Heap) : acodeK S Tryd.prog C n 49 f23_c (env0 [x0]) H (fin Tryd.prog Tryd.f23) = f23 S C n x0 H := by
  have h1 : acodeK S Tryd.prog C n 49 f23_c (env0 [x0]) H (fin Tryd.prog Tryd.f23) = f23G S C n (fun env H => aloopK (acodeK S Tryd.prog C n 49 (cAt f23_c [1, 0, 1, 0, 0])) n env H (kAt S Tryd.prog C n 49 f23_c [1, 0, 1, 0] (fin Tryd.prog Tryd.f23))) x0 H := by kernel_rfl
  have e0 : (fun env H => aloopK (acodeK S Tryd.prog C n 49 (cAt f23_c [1, 0, 1, 0, 0])) n env H (kAt S Tryd.prog C n 49 f23_c [1, 0, 1, 0] (fin Tryd.prog Tryd.f23))) = (fun env H => f23_L0 S C n n (env 0) (env 3) H) := by funext env H; exact f23_L0_eq S C n n env H
  rw [e0] at h1
  exact h1.trans (by kernel_rfl)


theorem f23_eq {E : Ext} (hE : E 23 = none) (n : Nat) (x0 : Value) (H : Heap) : acall Tryd.prog true E (n + 1) 23 [x0] H = f23 real (acall Tryd.prog true E n) n x0 H :=
  (acall_eq (N := 49) Tryd.func23 (by kernel_rfl) (by kernel_rfl) hE (by kernel_rfl) (by kernel_rfl)).trans (f23_main real _ n x0 H)

/-! incunable/words.IsPattern -/
noncomputable def f24_c : Code := (Tryd.f24.body).getD .skip

noncomputable def f24 (S : Seam (Value × Heap)) (C : CallF) (n : Nat) (x0 : Value) (H : Heap) : Option (Value × Heap) :=
 S.b (up (binB Tryd.prog .add 9 x0 (.string ⟨#[47]⟩)) H) fun x4_1 H2 =>
 S.b (C 45 [x4_1, (.int .u8 47), (.int .u8 92)] H2) fun x5_3 H4 =>
 S.b (up (lenStr x0) H4) fun x7_5 H6 =>
 S.b (up (binB Tryd.prog .eql 3 x5_3 x7_5) H6) fun x8_7 H8 =>
 some (x8_7, H8)

theorem f24_main (S : Seam (Value × Heap)) (C : CallF) (n : Nat) (x0 : Value) (H : Heap) : acodeK S Tryd.prog C n 9 f24_c (env0 [x0]) H (fin Tryd.prog Tryd.f24) = f24 S C n x0 H := by
  kernel_rfl


theorem f24_eq {E : Ext} (hE : E 24 = none) (n : Nat) (x0 : Value) (H : Heap) : acall Tryd.prog true E (n + 1) 24 [x0] H = f24 real (acall Tryd.prog true E n) n x0 H :=
  (acall_eq (N := 9) Tryd.func24 (by kernel_rfl) (by kernel_rfl) hE (by kernel_rfl) (by kernel_rfl)).trans (f24_main real _ n x0 H)

/-! incunable/incunableref14.IsPattern -/
noncomputable def f25_c : Code := (Tryd.f25.body).getD .skip

noncomputable def f25_J1 (S : Seam (Value × Heap)) (C : CallF) (n : Nat) (R0 : Value→Value→Heap→Option (Value × Heap)) (x0_65 x3_66 : Value) (H67 : Heap) : Option (Value × Heap) :=
 S.b (up (binB Tryd.prog .add 3 x3_66 (.int .i64 1)) H67) fun x9_68 H69 =>
 R0 x0_65 x9_68 H69

noncomputable def f25_L0 (S : Seam (Value × Heap)) (C : CallF) (n : Nat) : Nat → Value → Value → Heap → Option (Value × Heap)
 | 0, _, _, _ => none
 | m + 1, x0_1, x3_2, H3 =>
   S.b (up (lenStr x0_1) H3) fun x6_4 H5 =>
   S.b (up (binB Tryd.prog .lss 3 x3_2 x6_4) H5) fun x7_6 H7 =>
   S.i x7_6
   (S.b (up (idxS x0_1 x3_2) H7) fun x12_8 H9 =>
    S.b (up (binB Tryd.prog .eql 5 x12_8 (.int .u8 10)) H9) fun x13_10 H11 =>
    S.b (gd (wd x13_10 false) (some (x0_1, H11)) H11) fun x15_12 H13 =>
    S.b (gd (wd x13_10 false) (some (x3_2, H13)) H13) fun x16_14 H15 =>
    S.b (gd (wd x13_10 false) (up (idxS x15_12 x16_14) H15) H15) fun x17_16 H17 =>
    S.b (gd (wd x13_10 false) (up (binB Tryd.prog .eql 5 x17_16 (.int .u8 13)) H17) H17) fun x18_18 H19 =>
    S.b (pickV x13_10 (.bool true) x18_18 H19) fun x19_20 H21 =>
    S.b (gd (wd x19_20 false) (some (x0_1, H21)) H21) fun x21_22 H23 =>
    S.b (gd (wd x19_20 false) (some (x3_2, H23)) H23) fun x22_24 H25 =>
    S.b (gd (wd x19_20 false) (up (idxS x21_22 x22_24) H25) H25) fun x23_26 H27 =>
    S.b (gd (wd x19_20 false) (up (binB Tryd.prog .eql 5 x23_26 (.int .u8 47)) H27) H27) fun x24_28 H29 =>
    S.b (pickV x19_20 (.bool true) x24_28 H29) fun x25_30 H31 =>
    S.i x25_30
    (some ((.bool false), H31))
    (S.b (up (idxS x0_1 x3_2) H31) fun x28_32 H33 =>
     S.b (up (binB Tryd.prog .eql 5 x28_32 (.int .u8 92)) H33) fun x29_34 H35 =>
     S.i x29_34
     (S.b (up (binB Tryd.prog .add 3 x3_2 (.int .i64 1)) H35) fun x31_36 H37 =>
      S.b (up (lenStr x0_1) H37) fun x34_38 H39 =>
      S.b (up (binB Tryd.prog .geq 3 x31_36 x34_38) H39) fun x35_40 H41 =>
      S.b (gd (wd x35_40 false) (some (x0_1, H41)) H41) fun x37_42 H43 =>
      S.b (gd (wd x35_40 false) (some (x31_36, H43)) H43) fun x38_44 H45 =>
      S.b (gd (wd x35_40 false) (up (idxS x37_42 x38_44) H45) H45) fun x39_46 H47 =>
      S.b (gd (wd x35_40 false) (up (binB Tryd.prog .eql 5 x39_46 (.int .u8 10)) H47) H47) fun x40_48 H49 =>
      S.b (pickV x35_40 (.bool true) x40_48 H49) fun x41_50 H51 =>
      S.b (gd (wd x41_50 false) (some (x0_1, H51)) H51) fun x43_52 H53 =>
      S.b (gd (wd x41_50 false) (some (x31_36, H53)) H53) fun x44_54 H55 =>
      S.b (gd (wd x41_50 false) (up (idxS x43_52 x44_54) H55) H55) fun x45_56 H57 =>
      S.b (gd (wd x41_50 false) (up (binB Tryd.prog .eql 5 x45_56 (.int .u8 13)) H57) H57) fun x46_58 H59 =>
      S.b (pickV x41_50 (.bool true) x46_58 H59) fun x47_60 H61 =>
      S.i x47_60
      (some ((.bool false), H61))
      (f25_J1 S C n (f25_L0 S C n m) x0_1 x31_36 H61))
     (f25_J1 S C n (f25_L0 S C n m) x0_1 x3_2 H35)))
   (some ((.bool true), H7))

theorem f25_L0_eq (S : Seam (Value × Heap)) (C : CallF) (n : Nat) : ∀ (m : Nat) (env : Env) (H : Heap), aloopK (acodeK S Tryd.prog C n 48 (cAt f25_c [1, 0, 1, 0, 0])) m env H (kAt S Tryd.prog C n 48 f25_c [1, 0, 1, 0] (fin Tryd.prog Tryd.f25)) = f25_L0 S C n m (env 0) (env 3) H := by
  intro m env H
  refine aloopK_eq (L := fun m env H => f25_L0 S C n m (env 0) (env 3) H) (fun env H => rfl) (fun m env H => ?_) m env H
  kernel_rfl


noncomputable def f25 (S : Seam (Value × Heap)) (C : CallF) (n : Nat) (x0 : Value) (H : Heap) : Option (Value × Heap) :=
 f25_L0 S C n n x0 (.int .i64 0) H

noncomputable def f25G (S : Seam (Value × Heap)) (C : CallF) (n : Nat) (P0 : Env → Heap → Option (Value × Heap)) (x0 : Value) (H : Heap) : Option (Value × Heap) :=
 P0 (putE 48 (putE 48 (env0 [x0]) (some 2) (.bool false)) (some 3) (.int .i64 0)) H

theorem f25_main (S : Seam (Value × Heap)) (C : CallF) (n : Nat) (x0 : Value) (H : Heap) : acodeK S Tryd.prog C n 48 f25_c (env0 [x0]) H (fin Tryd.prog Tryd.f25) = f25 S C n x0 H := by
  have h1 : acodeK S Tryd.prog C n 48 f25_c (env0 [x0]) H (fin Tryd.prog Tryd.f25) = f25G S C n (fun env H => aloopK (acodeK S Tryd.prog C n 48 (cAt f25_c [1, 0, 1, 0, 0])) n env H (kAt S Tryd.prog C n 48 f25_c [1, 0, 1, 0] (fin Tryd.prog Tryd.f25))) x0 H := by kernel_rfl
  have e0 : (fun env H => aloopK (acodeK S Tryd.prog C n 48 (cAt f25_c [1, 0, 1, 0, 0])) n env H (kAt S Tryd.prog C n 48 f25_c [1, 0, 1, 0] (fin Tryd.prog Tryd.f25))) = (fun env H => f25_L0 S C n n (env 0) (env 3) H) := by funext env H; exact f25_L0_eq S C n n env H
  rw [e0] at h1
  exact h1.trans (by kernel_rfl)


theorem f25_eq {E : Ext} (hE : E 25 = none) (n : Nat) (x0 : Value) (H : Heap) : acall Tryd.prog true E (n + 1) 25 [x0] H = f25 real (acall Tryd.prog true E n) n x0 H :=
  (acall_eq (N := 48) Tryd.func25 (by kernel_rfl) (by kernel_rfl) hE (by kernel_rfl) (by kernel_rfl)).trans (f25_main real _ n x0 H)

/-! incunable/words.Spelled -/
noncomputable def f26_c : Code := (Tryd.f26.body).getD .skip

noncomputable def f26 (S : Seam (Value × Heap)) (C : CallF) (n : Nat) (x0 : Value) (H : Heap) : Option (Value × Heap) :=
 S.b (up (binB Tryd.prog .lss 3 x0 (.int .i64 5)) H) fun x4_1 H2 =>
 S.b (gd (wd x4_1 false) (some (x0, H2)) H2) fun x6_3 H4 =>
 S.b (gd (wd x4_1 false) (up (binB Tryd.prog .gtr 3 x6_3 (.int .i64 13)) H4) H4) fun x7_5 H6 =>
 S.b (pickV x4_1 (.bool true) x7_5 H6) fun x8_7 H8 =>
 S.i x8_7
 (some ((.string ⟨#[]⟩), H8))
 (S.b (up (binB Tryd.prog .sub 3 x0 (.int .i64 5)) H8) fun x10_9 H10 =>
  S.b (up (iAddrA 9 1 (.pointer (some ⟨0, 0, none⟩)) x10_9) H10) fun x11_11 H12 =>
  S.b (ldC x11_11 H12) fun x12_13 H14 =>
  some (x12_13, H14))

theorem f26_main (S : Seam (Value × Heap)) (C : CallF) (n : Nat) (x0 : Value) (H : Heap) : acodeK S Tryd.prog C n 13 f26_c (env0 [x0]) H (fin Tryd.prog Tryd.f26) = f26 S C n x0 H := by
  kernel_rfl


theorem f26_eq {E : Ext} (hE : E 26 = none) (n : Nat) (x0 : Value) (H : Heap) : acall Tryd.prog true E (n + 1) 26 [x0] H = f26 real (acall Tryd.prog true E n) n x0 H :=
  (acall_eq (N := 13) Tryd.func26 (by kernel_rfl) (by kernel_rfl) hE (by kernel_rfl) (by kernel_rfl)).trans (f26_main real _ n x0 H)

/-! incunable/incunableref14.Spelled -/
noncomputable def f27_c : Code := (Tryd.f27.body).getD .skip

noncomputable def f27 (S : Seam (Value × Heap)) (C : CallF) (n : Nat) (x0 : Value) (H : Heap) : Option (Value × Heap) :=
 S.b (up (binB Tryd.prog .eql 3 x0 (.int .i64 5)) H) fun x5_1 H2 =>
 S.i x5_1
 (some ((.string ⟨#[105, 109, 112, 111, 114, 116]⟩), H2))
 (S.b (up (binB Tryd.prog .eql 3 x0 (.int .i64 6)) H2) fun x7_3 H4 =>
  S.i x7_3
  (some ((.string ⟨#[115, 116, 97, 114, 116]⟩), H4))
  (S.b (up (binB Tryd.prog .eql 3 x0 (.int .i64 7)) H4) fun x9_5 H6 =>
   S.i x9_5
   (some ((.string ⟨#[116, 101, 114, 109]⟩), H6))
   (S.b (up (binB Tryd.prog .eql 3 x0 (.int .i64 8)) H6) fun x11_7 H8 =>
    S.i x11_7
    (some ((.string ⟨#[115, 107, 105, 112]⟩), H8))
    (S.b (up (binB Tryd.prog .eql 3 x0 (.int .i64 9)) H8) fun x13_9 H10 =>
     S.i x13_9
     (some ((.string ⟨#[108, 101, 102, 116]⟩), H10))
     (S.b (up (binB Tryd.prog .eql 3 x0 (.int .i64 10)) H10) fun x15_11 H12 =>
      S.i x15_11
      (some ((.string ⟨#[114, 105, 103, 104, 116]⟩), H12))
      (S.b (up (binB Tryd.prog .eql 3 x0 (.int .i64 11)) H12) fun x17_13 H14 =>
       S.i x17_13
       (some ((.string ⟨#[110, 111, 110, 101]⟩), H14))
       (S.b (up (binB Tryd.prog .eql 3 x0 (.int .i64 12)) H14) fun x19_15 H16 =>
        S.i x19_15
        (some ((.string ⟨#[114, 117, 108, 101]⟩), H16))
        (S.b (up (binB Tryd.prog .eql 3 x0 (.int .i64 13)) H16) fun x21_17 H18 =>
         S.i x21_17
         (some ((.string ⟨#[112, 114, 101, 99]⟩), H18))
         (some ((.string ⟨#[]⟩), H18))))))))))

theorem f27_main (S : Seam (Value × Heap)) (C : CallF) (n : Nat) (x0 : Value) (H : Heap) : acodeK S Tryd.prog C n 22 f27_c (env0 [x0]) H (fin Tryd.prog Tryd.f27) = f27 S C n x0 H := by
  kernel_rfl


theorem f27_eq {E : Ext} (hE : E 27 = none) (n : Nat) (x0 : Value) (H : Heap) : acall Tryd.prog true E (n + 1) 27 [x0] H = f27 real (acall Tryd.prog true E n) n x0 H :=
  (acall_eq (N := 22) Tryd.func27 (by kernel_rfl) (by kernel_rfl) hE (by kernel_rfl) (by kernel_rfl)).trans (f27_main real _ n x0 H)

/-! incunable/incunablelaw14.written -/
noncomputable def f28_c : Code := (Tryd.f28.body).getD .skip

noncomputable def f28 (S : Seam (Value × Heap)) (C : CallF) (n : Nat) (x0 : Value) (x1 : Value) (H : Heap) : Option (Value × Heap) :=
 S.b (C 17 [x0, (.int .i64 13)] H) fun x8_1 H2 =>
 S.b (up (binB Tryd.prog .add 3 (.int .i64 1) x8_1) H2) fun x9_3 H4 =>
 S.b (up (binB Tryd.prog .eql 3 x9_3 (.int .i64 1)) H4) fun x12_5 H6 =>
 S.b (gd (wd x12_5 true) (some (x1, H6)) H6) fun x14_7 H8 =>
 S.b (gd (wd x12_5 true) (C 20 [x14_7] H8) H8) fun x15_9 H10 =>
 S.b (pickV x12_5 x15_9 (.bool false) H10) fun x16_11 H12 =>
 S.i x16_11
 (some (.tuple #[x1, (.int .i64 1)], H12))
 (S.b (up (binB Tryd.prog .eql 3 x9_3 (.int .i64 2)) H12) fun x20_13 H14 =>
  S.b (gd (wd x20_13 true) (some (x1, H14)) H14) fun x22_15 H16 =>
  S.b (gd (wd x20_13 true) (C 22 [x22_15] H16) H16) fun x23_17 H18 =>
  S.b (pickV x20_13 x23_17 (.bool false) H18) fun x24_19 H20 =>
  S.i x24_19
  (S.b (up (binB Tryd.prog .add 9 (.string ⟨#[34]⟩) x1) H20) fun x26_21 H22 =>
   S.b (up (binB Tryd.prog .add 9 x26_21 (.string ⟨#[34]⟩)) H22) fun x27_23 H24 =>
   some (.tuple #[x27_23, (.int .i64 2)], H24))
  (S.b (up (binB Tryd.prog .eql 3 x9_3 (.int .i64 3)) H20) fun x30_25 H26 =>
   S.b (gd (wd x30_25 true) (some (x1, H26)) H26) fun x32_27 H28 =>
   S.b (gd (wd x30_25 true) (C 24 [x32_27] H28) H28) fun x33_29 H30 =>
   S.b (pickV x30_25 x33_29 (.bool false) H30) fun x34_31 H32 =>
   S.i x34_31
   (S.b (up (binB Tryd.prog .add 9 (.string ⟨#[47]⟩) x1) H32) fun x36_33 H34 =>
    S.b (up (binB Tryd.prog .add 9 x36_33 (.string ⟨#[47]⟩)) H34) fun x37_35 H36 =>
    some (.tuple #[x37_35, (.int .i64 3)], H36))
   (S.b (up (binB Tryd.prog .gtr 3 x9_3 (.int .i64 4)) H32) fun x40_37 H38 =>
    S.i x40_37
    (S.b (C 26 [x9_3] H38) fun x42_39 H40 =>
     some (.tuple #[x42_39, x9_3], H40))
    (S.b (up (binB Tryd.prog .quo 3 x0 (.int .i64 13)) H38) fun x45_41 H42 =>
     S.b (C 17 [x45_41, (.int .i64 4)] H42) fun x46_43 H44 =>
     S.b (up (slcStr (.string ⟨#[61, 59, 58, 124]⟩) (some x46_43) none) H44) fun x47_45 H46 =>
     S.b (up (slcStr x47_45 none (some (.int .i64 1))) H46) fun x48_47 H48 =>
     some (.tuple #[x48_47, (.int .i64 4)], H48)))))

theorem f28_main (S : Seam (Value × Heap)) (C : CallF) (n : Nat) (x0 : Value) (x1 : Value) (H : Heap) : acodeK S Tryd.prog C n 49 f28_c (env0 [x0, x1]) H (fin Tryd.prog Tryd.f28) = f28 S C n x0 x1 H := by
  kernel_rfl


theorem f28_eq {E : Ext} (hE : E 28 = none) (n : Nat) (x0 : Value) (x1 : Value) (H : Heap) : acall Tryd.prog true E (n + 1) 28 [x0, x1] H = f28 real (acall Tryd.prog true E n) n x0 x1 H :=
  (acall_eq (N := 49) Tryd.func28 (by kernel_rfl) (by kernel_rfl) hE (by kernel_rfl) (by kernel_rfl)).trans (f28_main real _ n x0 x1 H)

/-! bytes.TrimLeft -/
noncomputable def f30_c : Code := (Tryd.f30.body).getD .skip

noncomputable def f30 (S : Seam (Value × Heap)) (C : CallF) (n : Nat) (x0 : Value) (x1 : Value) (H : Heap) : Option (Value × Heap) :=
 S.b (up (lenS x0) H) fun x8_1 H2 =>
 S.b (up (binB Tryd.prog .eql 3 x8_1 (.int .i64 0)) H2) fun x9_3 H4 =>
 S.i x9_3
 (some ((.slice none 0 0), H4))
 (S.b (up (binB Tryd.prog .eql 9 x1 (.string ⟨#[]⟩)) H4) fun x11_5 H6 =>
  S.i x11_5
  (some (x0, H6))
  (S.b (up (lenStr x1) H6) fun x14_7 H8 =>
   S.b (up (binB Tryd.prog .eql 3 x14_7 (.int .i64 1)) H8) fun x15_9 H10 =>
   S.b (gd (wd x15_9 true) (some (x1, H10)) H10) fun x17_11 H12 =>
   S.b (gd (wd x15_9 true) (up (idxS x17_11 (.int .i64 0)) H12) H12) fun x18_13 H14 =>
   S.b (gd (wd x15_9 true) (up (binB Tryd.prog .lss 5 x18_13 (.int .u8 128)) H14) H14) fun x19_15 H16 =>
   S.b (pickV x15_9 x19_15 (.bool false) H16) fun x20_17 H18 =>
   S.i x20_17
   (S.b (up (idxS x1 (.int .i64 0)) H18) fun x23_19 H20 =>
    S.b (C 52 [x0, x23_19] H20) fun x24_21 H22 =>
    some (x24_21, H22))
   (S.b (C 53 [x1] H18) fun x27_23 H24 =>
    S.b (extr 0 x27_23 H24) fun x28_25 H26 =>
    S.b (extr 1 x27_23 H26) fun x29_27 H28 =>
    S.b (newV (rep 256 [(.bool false)]) H28) fun x5_29 H30 =>
    S.b (stV 256 x5_29 x28_25 H30) fun _ H31 =>
    S.i x29_27
    (S.b (C 54 [x0, x5_29] H31) fun x32_32 H33 =>
     some (x32_32, H33))
    (S.b (C 55 [x0, x1] H31) fun x35_34 H35 =>
     some (x35_34, H35)))))

theorem f30_main (S : Seam (Value × Heap)) (C : CallF) (n : Nat) (x0 : Value) (x1 : Value) (H : Heap) : acodeK S Tryd.prog C n 36 f30_c (env0 [x0, x1]) H (fin Tryd.prog Tryd.f30) = f30 S C n x0 x1 H := by
  kernel_rfl


theorem f30_eq {E : Ext} (hE : E 30 = none) (n : Nat) (x0 : Value) (x1 : Value) (H : Heap) : acall Tryd.prog true E (n + 1) 30 [x0, x1] H = f30 real (acall Tryd.prog true E n) n x0 x1 H :=
  (acall_eq (N := 36) Tryd.func30 (by kernel_rfl) (by kernel_rfl) hE (by kernel_rfl) (by kernel_rfl)).trans (f30_main real _ n x0 x1 H)

/-! bytes.Cut -/
noncomputable def f31_c : Code := (Tryd.f31.body).getD .skip

noncomputable def f31 (S : Seam (Value × Heap)) (C : CallF) (n : Nat) (x0 : Value) (x1 : Value) (H : Heap) : Option (Value × Heap) :=
 S.b (C 56 [x0, x1] H) fun x10_1 H2 =>
 S.b (up (binB Tryd.prog .geq 3 x10_1 (.int .i64 0)) H2) fun x12_3 H4 =>
 S.i x12_3
 (S.b (up (slcS 1 x0 none (some x10_1) none) H4) fun x15_5 H6 =>
  S.b (up (lenS x1) H6) fun x19_7 H8 =>
  S.b (up (binB Tryd.prog .add 3 x10_1 x19_7) H8) fun x20_9 H10 =>
  S.b (up (slcS 1 x0 (some x20_9) none none) H10) fun x21_11 H12 =>
  some (.tuple #[x15_5, x21_11, (.bool true)], H12))
 (some (.tuple #[x0, (.slice none 0 0), (.bool false)], H4))

theorem f31_main (S : Seam (Value × Heap)) (C : CallF) (n : Nat) (x0 : Value) (x1 : Value) (H : Heap) : acodeK S Tryd.prog C n 23 f31_c (env0 [x0, x1]) H (fin Tryd.prog Tryd.f31) = f31 S C n x0 x1 H := by
  kernel_rfl


theorem f31_eq {E : Ext} (hE : E 31 = none) (n : Nat) (x0 : Value) (x1 : Value) (H : Heap) : acall Tryd.prog true E (n + 1) 31 [x0, x1] H = f31 real (acall Tryd.prog true E n) n x0 x1 H :=
  (acall_eq (N := 23) Tryd.func31 (by kernel_rfl) (by kernel_rfl) hE (by kernel_rfl) (by kernel_rfl)).trans (f31_main real _ n x0 x1 H)

/-! incunable/words.word -/
noncomputable def f32_c : Code := (Tryd.f32.body).getD .skip

noncomputable def f32 (S : Seam (Value × Heap)) (C : CallF) (n : Nat) (x0 : Value) (H : Heap) : Option (Value × Heap) :=
 S.b (up (idxS x0 (.int .i64 0)) H) fun x10_1 H2 =>
 S.b (C 57 [(.string ⟨#[61, 59, 58, 124]⟩), x10_1] H2) fun x13_3 H4 =>
 S.b (up (binB Tryd.prog .geq 3 x13_3 (.int .i64 0)) H4) fun x14_5 H6 =>
 S.i x14_5
 (some (.tuple #[(.int .i64 4), (.int .i64 1)], H6))
 (S.b (up (binB Tryd.prog .eql 5 x10_1 (.int .u8 34)) H6) fun x17_7 H8 =>
  S.i x17_7
  (S.b (up (slcStr x0 (some (.int .i64 1)) none) H8) fun x19_9 H10 =>
   S.b (C 45 [x19_9, (.int .u8 34), (.int .u8 34)] H10) fun x20_11 H12 =>
   S.b (up (binB Tryd.prog .geq 3 x20_11 (.int .i64 0)) H12) fun x22_13 H14 =>
   S.b (gd (wd x22_13 true) (some (x0, H14)) H14) fun x24_15 H16 =>
   S.b (gd (wd x22_13 true) (some (x20_11, H16)) H16) fun x25_17 H18 =>
   S.b (gd (wd x22_13 true) (up (binB Tryd.prog .add 3 (.int .i64 1) x25_17) H18) H18) fun x26_19 H20 =>
   S.b (gd (wd x22_13 true) (up (slcStr x24_15 (some (.int .i64 1)) (some x26_19)) H20) H20) fun x27_21 H22 =>
   S.b (gd (wd x22_13 true) (C 22 [x27_21] H22) H22) fun x28_23 H24 =>
   S.b (pickV x22_13 x28_23 (.bool false) H24) fun x29_25 H26 =>
   S.i x29_25
   (S.b (up (binB Tryd.prog .add 3 x20_11 (.int .i64 2)) H26) fun x31_27 H28 =>
    some (.tuple #[(.int .i64 2), x31_27], H28))
   (some (.tuple #[(.int .i64 0), (.int .i64 0)], H26)))
  (S.b (up (binB Tryd.prog .eql 5 x10_1 (.int .u8 47)) H8) fun x34_31 H32 =>
   S.i x34_31
   (S.b (up (slcStr x0 (some (.int .i64 1)) none) H32) fun x36_33 H34 =>
    S.b (C 45 [x36_33, (.int .u8 47), (.int .u8 92)] H34) fun x37_35 H36 =>
    S.b (up (binB Tryd.prog .geq 3 x37_35 (.int .i64 0)) H36) fun x39_37 H38 =>
    S.i x39_37
    (S.b (up (binB Tryd.prog .add 3 x37_35 (.int .i64 2)) H38) fun x41_39 H40 =>
     some (.tuple #[(.int .i64 3), x41_39], H40))
    (some (.tuple #[(.int .i64 0), (.int .i64 0)], H38)))
   (S.b (C 58 [x10_1] H32) fun x44_41 H42 =>
    S.b (gd (wd x44_41 true) (some (x10_1, H42)) H42) fun x46_43 H44 =>
    S.b (gd (wd x44_41 true) (C 36 [x46_43] H44) H44) fun x47_45 H46 =>
    S.b (gd (wd x44_41 true) (up (unB .not x47_45) H46) H46) fun x48_47 H48 =>
    S.b (pickV x44_41 x48_47 (.bool false) H48) fun x49_49 H50 =>
    S.i x49_49
    (S.b (C 37 [x0] H50) fun x51_51 H52 =>
     S.b (up (slcA 9 1 (.pointer (some ⟨0, 0, none⟩)) none none none) H52) fun x52_53 H54 =>
     S.b (up (slcStr x0 none (some x51_51)) H54) fun x55_55 H56 =>
     S.b (C 59 [x52_53, x55_55] H56) fun x56_57 H58 =>
     S.c true (S.b (up (binB Tryd.prog .geq 3 x56_57 (.int .i64 0)) H58) fun x58_59 H60 =>
      S.i x58_59
      (S.b (up (binB Tryd.prog .add 3 (.int .i64 5) x56_57) H60) fun x60_61 H62 =>
       some (.tuple #[x60_61, x51_51], H62))
      (S.b (up (binB Tryd.prog .leq 3 x51_51 (.int .i64 24)) H60) fun x63_63 H64 =>
       S.i x63_63
       (some (.tuple #[(.int .i64 1), x51_51], H64))
       (some (.tuple #[(.int .i64 0), (.int .i64 0)], H64)))))
    (some (.tuple #[(.int .i64 0), (.int .i64 0)], H50)))))

theorem f32_main (S : Seam (Value × Heap)) (C : CallF) (n : Nat) (x0 : Value) (H : Heap) : acodeK S Tryd.prog C n 65 f32_c (env0 [x0]) H (fin Tryd.prog Tryd.f32) = f32 S C n x0 H := by
  kernel_rfl


theorem f32_eq {E : Ext} (hE : E 32 = none) (n : Nat) (x0 : Value) (H : Heap) : acall Tryd.prog true E (n + 1) 32 [x0] H = f32 real (acall Tryd.prog true E n) n x0 H :=
  (acall_eq (N := 65) Tryd.func32 (by kernel_rfl) (by kernel_rfl) hE (by kernel_rfl) (by kernel_rfl)).trans (f32_main real _ n x0 H)

/-! incunable/incunableref14.word -/
noncomputable def f33_c : Code := (Tryd.f33.body).getD .skip

noncomputable def f33_L0 (S : Seam (Value × Heap)) (C : CallF) (n : Nat) : Nat → Value → Value → Value → Value → Value → Heap → Option (Value × Heap)
 | 0, _, _, _, _, _, _ => none
 | m + 1, x0_91, x1_92, x4_93, x5_94, x9_95, H96 =>
   S.b (up (lenS x0_91) H96) fun x81_97 H98 =>
   S.b (up (binB Tryd.prog .lss 3 x9_95 x81_97) H98) fun x82_99 H100 =>
   S.b (gd (wd x82_99 true) (some (x0_91, H100)) H100) fun x84_101 H102 =>
   S.b (gd (wd x82_99 true) (some (x9_95, H102)) H102) fun x85_103 H104 =>
   S.b (gd (wd x82_99 true) (up (iAddrS 1 x84_101 x85_103) H104) H104) fun x86_105 H106 =>
   S.b (gd (wd x82_99 true) (ldC x86_105 H106) H106) fun x87_107 H108 =>
   S.b (gd (wd x82_99 true) (C 41 [x87_107] H108) H108) fun x88_109 H110 =>
   S.b (pickV x82_99 x88_109 (.bool false) H110) fun x89_111 H112 =>
   S.i x89_111
   (S.b (up (binB Tryd.prog .add 3 x9_95 (.int .i64 1)) H112) fun x91_113 H114 =>
    f33_L0 S C n m x0_91 x1_92 x4_93 x5_94 x91_113 H114)
   (S.b (up (slcS 1 x0_91 (some x1_92) (some x9_95) none) H112) fun x95_115 H116 =>
    S.b (toStr x95_115 H116) fun x96_117 H118 =>
    S.b (C 40 [x96_117] H118) fun x97_119 H120 =>
    S.b (up (binB Tryd.prog .eql 3 x97_119 (.int .i64 0)) H120) fun x99_121 H122 =>
    S.i x99_121
    (S.b (ldA 3 x5_94 H122) fun x100_123 H124 =>
     S.b (stV 3 x4_93 x100_123 H124) fun _ H125 =>
     (resM [(ldA 3 x4_93 H125).map (·.1)]).map fun l => (one l, H125))
    (S.b (bld [(.int .i64 0), (.int .i64 0), (.int .i64 0)] [(0, 1, x97_119), (1, 1, x1_92), (2, 1, x9_95)] H122) fun x104_126 H127 =>
     S.b (stV 3 x4_93 x104_126 H127) fun _ H128 =>
     (resM [(ldA 3 x4_93 H128).map (·.1)]).map fun l => (one l, H128)))

theorem f33_L0_eq (S : Seam (Value × Heap)) (C : CallF) (n : Nat) : ∀ (m : Nat) (env : Env) (H : Heap), aloopK (acodeK S Tryd.prog C n 106 (cAt f33_c [1, 1, 1, 0, 0, 1, 1, 1, 1, 1, 1, 1, 0, 1, 0, 0, 0])) m env H (kAt S Tryd.prog C n 106 f33_c [1, 1, 1, 0, 0, 1, 1, 1, 1, 1, 1, 1, 0, 1, 0, 0] (fin Tryd.prog Tryd.f33)) = f33_L0 S C n m (env 0) (env 1) (env 4) (env 5) (env 9) H := by
  intro m env H
  refine aloopK_eq (L := fun m env H => f33_L0 S C n m (env 0) (env 1) (env 4) (env 5) (env 9) H) (fun env H => rfl) (fun m env H => ?_) m env H
  kernel_rfl


noncomputable def f33 (S : Seam (Value × Heap)) (C : CallF) (n : Nat) (x0 : Value) (x1 : Value) (H : Heap) : Option (Value × Heap) :=
 S.b (newV [(.int .i64 0), (.int .i64 0), (.int .i64 0)] H) fun x4_1 H2 =>
 S.b (bld [(.int .i64 0), (.int .i64 0), (.int .i64 0)] [] H2) fun x11_3 H4 =>
 S.b (newV [(.int .i64 0), (.int .i64 0), (.int .i64 0)] H4) fun x5_5 H6 =>
 S.b (stV 3 x5_5 x11_3 H6) fun _ H7 =>
 S.b (up (iAddrS 1 x0 x1) H7) fun x14_8 H9 =>
 S.b (ldC x14_8 H9) fun x15_10 H11 =>
 S.b (up (binB Tryd.prog .eql 5 x15_10 (.int .u8 61)) H11) fun x18_12 H13 =>
 S.b (gd (wd x18_12 false) (some (x15_10, H13)) H13) fun x20_14 H15 =>
 S.b (gd (wd x18_12 false) (up (binB Tryd.prog .eql 5 x20_14 (.int .u8 59)) H15) H15) fun x21_16 H17 =>
 S.b (pickV x18_12 (.bool true) x21_16 H17) fun x22_18 H19 =>
 S.b (gd (wd x22_18 false) (some (x15_10, H19)) H19) fun x24_20 H21 =>
 S.b (gd (wd x22_18 false) (up (binB Tryd.prog .eql 5 x24_20 (.int .u8 58)) H21) H21) fun x25_22 H23 =>
 S.b (pickV x22_18 (.bool true) x25_22 H23) fun x26_24 H25 =>
 S.b (gd (wd x26_24 false) (some (x15_10, H25)) H25) fun x28_26 H27 =>
 S.b (gd (wd x26_24 false) (up (binB Tryd.prog .eql 5 x28_26 (.int .u8 124)) H27) H27) fun x29_28 H29 =>
 S.b (pickV x26_24 (.bool true) x29_28 H29) fun x30_30 H31 =>
 S.i x30_30
 (S.b (up (binB Tryd.prog .add 3 x1 (.int .i64 1)) H31) fun x33_32 H33 =>
  S.b (bld [(.int .i64 0), (.int .i64 0), (.int .i64 0)] [(0, 1, (.int .i64 4)), (1, 1, x1), (2, 1, x33_32)] H33) fun x34_34 H35 =>
  S.b (stV 3 x4_1 x34_34 H35) fun _ H36 =>
  (resM [(ldA 3 x4_1 H36).map (·.1)]).map fun l => (one l, H36))
 (S.b (up (binB Tryd.prog .eql 5 x15_10 (.int .u8 34)) H31) fun x37_37 H38 =>
  S.i x37_37
  (S.b (C 60 [x0, x1] H38) fun x40_39 H40 =>
   S.b (up (binB Tryd.prog .lss 3 x40_39 (.int .i64 0)) H40) fun x42_41 H42 =>
   S.b (gd (wd x42_41 false) (some (x0, H42)) H42) fun x44_43 H44 =>
   S.b (gd (wd x42_41 false) (some (x1, H44)) H44) fun x45_45 H46 =>
   S.b (gd (wd x42_41 false) (up (binB Tryd.prog .add 3 x45_45 (.int .i64 1)) H46) H46) fun x46_47 H48 =>
   S.b (gd (wd x42_41 false) (some (x40_39, H48)) H48) fun x47_49 H50 =>
   S.b (gd (wd x42_41 false) (up (binB Tryd.prog .sub 3 x47_49 (.int .i64 1)) H50) H50) fun x48_51 H52 =>
   S.b (gd (wd x42_41 false) (up (slcS 1 x44_43 (some x46_47) (some x48_51) none) H52) H52) fun x49_53 H54 =>
   S.b (gd (wd x42_41 false) (toStr x49_53 H54) H54) fun x50_55 H56 =>
   S.b (gd (wd x42_41 false) (C 23 [x50_55] H56) H56) fun x51_57 H58 =>
   S.b (gd (wd x42_41 false) (up (unB .not x51_57) H58) H58) fun x52_59 H60 =>
   S.b (pickV x42_41 (.bool true) x52_59 H60) fun x53_61 H62 =>
   S.i x53_61
   (S.b (ldA 3 x5_5 H62) fun x54_63 H64 =>
    S.b (stV 3 x4_1 x54_63 H64) fun _ H65 =>
    (resM [(ldA 3 x4_1 H65).map (·.1)]).map fun l => (one l, H65))
   (S.b (bld [(.int .i64 0), (.int .i64 0), (.int .i64 0)] [(0, 1, (.int .i64 2)), (1, 1, x1), (2, 1, x40_39)] H62) fun x57_66 H67 =>
    S.b (stV 3 x4_1 x57_66 H67) fun _ H68 =>
    (resM [(ldA 3 x4_1 H68).map (·.1)]).map fun l => (one l, H68)))
  (S.b (up (binB Tryd.prog .eql 5 x15_10 (.int .u8 47)) H38) fun x60_69 H70 =>
   S.i x60_69
   (S.b (C 60 [x0, x1] H70) fun x63_71 H72 =>
    S.b (up (binB Tryd.prog .lss 3 x63_71 (.int .i64 0)) H72) fun x65_73 H74 =>
    S.i x65_73
    (S.b (ldA 3 x5_5 H74) fun x66_75 H76 =>
     S.b (stV 3 x4_1 x66_75 H76) fun _ H77 =>
     (resM [(ldA 3 x4_1 H77).map (·.1)]).map fun l => (one l, H77))
    (S.b (bld [(.int .i64 0), (.int .i64 0), (.int .i64 0)] [(0, 1, (.int .i64 3)), (1, 1, x1), (2, 1, x63_71)] H74) fun x69_78 H79 =>
     S.b (stV 3 x4_1 x69_78 H79) fun _ H80 =>
     (resM [(ldA 3 x4_1 H80).map (·.1)]).map fun l => (one l, H80)))
   (S.b (C 41 [x15_10] H70) fun x72_81 H82 =>
    S.b (gd (wd x72_81 true) (some (x15_10, H82)) H82) fun x74_83 H84 =>
    S.b (gd (wd x72_81 true) (C 39 [x74_83] H84) H84) fun x75_85 H86 =>
    S.b (gd (wd x72_81 true) (up (unB .not x75_85) H86) H86) fun x76_87 H88 =>
    S.b (pickV x72_81 x76_87 (.bool false) H88) fun x77_89 H90 =>
    S.i x77_89
    (f33_L0 S C n n x0 x1 x4_1 x5_5 x1 H90)
    (S.b (ldA 3 x5_5 H90) fun x105_129 H130 =>
     S.b (stV 3 x4_1 x105_129 H130) fun _ H131 =>
     (resM [(ldA 3 x4_1 H131).map (·.1)]).map fun l => (one l, H131)))))

noncomputable def f33G (S : Seam (Value × Heap)) (C : CallF) (n : Nat) (P0 : Env → Heap → Option (Value × Heap)) (x0 : Value) (x1 : Value) (H : Heap) : Option (Value × Heap) :=
 S.b (newV [(.int .i64 0), (.int .i64 0), (.int .i64 0)] H) fun x4_132 H133 =>
 S.b (bld [(.int .i64 0), (.int .i64 0), (.int .i64 0)] [] H133) fun x11_134 H135 =>
 S.b (newV [(.int .i64 0), (.int .i64 0), (.int .i64 0)] H135) fun x5_136 H137 =>
 S.b (stV 3 x5_136 x11_134 H137) fun u138 H139 =>
 S.b (up (iAddrS 1 x0 x1) H139) fun x14_140 H141 =>
 S.b (ldC x14_140 H141) fun x15_142 H143 =>
 S.b (up (binB Tryd.prog .eql 5 x15_142 (.int .u8 61)) H143) fun x18_144 H145 =>
 S.b (gd (wd x18_144 false) (some (x15_142, H145)) H145) fun x20_146 H147 =>
 S.b (gd (wd x18_144 false) (up (binB Tryd.prog .eql 5 x20_146 (.int .u8 59)) H147) H147) fun x21_148 H149 =>
 S.b (pickV x18_144 (.bool true) x21_148 H149) fun x22_150 H151 =>
 S.b (gd (wd x22_150 false) (some (x15_142, H151)) H151) fun x24_152 H153 =>
 S.b (gd (wd x22_150 false) (up (binB Tryd.prog .eql 5 x24_152 (.int .u8 58)) H153) H153) fun x25_154 H155 =>
 S.b (pickV x22_150 (.bool true) x25_154 H155) fun x26_156 H157 =>
 S.b (gd (wd x26_156 false) (some (x15_142, H157)) H157) fun x28_158 H159 =>
 S.b (gd (wd x26_156 false) (up (binB Tryd.prog .eql 5 x28_158 (.int .u8 124)) H159) H159) fun x29_160 H161 =>
 S.b (pickV x26_156 (.bool true) x29_160 H161) fun x30_162 H163 =>
 S.i x30_162
 (S.b (up (binB Tryd.prog .add 3 x1 (.int .i64 1)) H163) fun x33_164 H165 =>
  S.b (bld [(.int .i64 0), (.int .i64 0), (.int .i64 0)] [(0, 1, (.int .i64 4)), (1, 1, x1), (2, 1, x33_164)] H165) fun x34_166 H167 =>
  S.b (stV 3 x4_132 x34_166 H167) fun u168 H169 =>
  (resM [(ldA 3 x4_132 H169).map (·.1)]).map fun l => (one l, H169))
 (S.b (up (binB Tryd.prog .eql 5 x15_142 (.int .u8 34)) H163) fun x37_170 H171 =>
  S.i x37_170
  (S.b (C 60 [x0, x1] H171) fun x40_172 H173 =>
   S.b (up (binB Tryd.prog .lss 3 x40_172 (.int .i64 0)) H173) fun x42_174 H175 =>
   S.b (gd (wd x42_174 false) (some (x0, H175)) H175) fun x44_176 H177 =>
   S.b (gd (wd x42_174 false) (some (x1, H177)) H177) fun x45_178 H179 =>
   S.b (gd (wd x42_174 false) (up (binB Tryd.prog .add 3 x45_178 (.int .i64 1)) H179) H179) fun x46_180 H181 =>
   S.b (gd (wd x42_174 false) (some (x40_172, H181)) H181) fun x47_182 H183 =>
   S.b (gd (wd x42_174 false) (up (binB Tryd.prog .sub 3 x47_182 (.int .i64 1)) H183) H183) fun x48_184 H185 =>
   S.b (gd (wd x42_174 false) (up (slcS 1 x44_176 (some x46_180) (some x48_184) none) H185) H185) fun x49_186 H187 =>
   S.b (gd (wd x42_174 false) (toStr x49_186 H187) H187) fun x50_188 H189 =>
   S.b (gd (wd x42_174 false) (C 23 [x50_188] H189) H189) fun x51_190 H191 =>
   S.b (gd (wd x42_174 false) (up (unB .not x51_190) H191) H191) fun x52_192 H193 =>
   S.b (pickV x42_174 (.bool true) x52_192 H193) fun x53_194 H195 =>
   S.i x53_194
   (S.b (ldA 3 x5_136 H195) fun x54_196 H197 =>
    S.b (stV 3 x4_132 x54_196 H197) fun u198 H199 =>
    (resM [(ldA 3 x4_132 H199).map (·.1)]).map fun l => (one l, H199))
   (S.b (bld [(.int .i64 0), (.int .i64 0), (.int .i64 0)] [(0, 1, (.int .i64 2)), (1, 1, x1), (2, 1, x40_172)] H195) fun x57_200 H201 =>
    S.b (stV 3 x4_132 x57_200 H201) fun u202 H203 =>
    (resM [(ldA 3 x4_132 H203).map (·.1)]).map fun l => (one l, H203)))
  (S.b (up (binB Tryd.prog .eql 5 x15_142 (.int .u8 47)) H171) fun x60_204 H205 =>
   S.i x60_204
   (S.b (C 60 [x0, x1] H205) fun x63_206 H207 =>
    S.b (up (binB Tryd.prog .lss 3 x63_206 (.int .i64 0)) H207) fun x65_208 H209 =>
    S.i x65_208
    (S.b (ldA 3 x5_136 H209) fun x66_210 H211 =>
     S.b (stV 3 x4_132 x66_210 H211) fun u212 H213 =>
     (resM [(ldA 3 x4_132 H213).map (·.1)]).map fun l => (one l, H213))
    (S.b (bld [(.int .i64 0), (.int .i64 0), (.int .i64 0)] [(0, 1, (.int .i64 3)), (1, 1, x1), (2, 1, x63_206)] H209) fun x69_214 H215 =>
     S.b (stV 3 x4_132 x69_214 H215) fun u216 H217 =>
     (resM [(ldA 3 x4_132 H217).map (·.1)]).map fun l => (one l, H217)))
   (S.b (C 41 [x15_142] H205) fun x72_218 H219 =>
    S.b (gd (wd x72_218 true) (some (x15_142, H219)) H219) fun x74_220 H221 =>
    S.b (gd (wd x72_218 true) (C 39 [x74_220] H221) H221) fun x75_222 H223 =>
    S.b (gd (wd x72_218 true) (up (unB .not x75_222) H223) H223) fun x76_224 H225 =>
    S.b (pickV x72_218 x76_224 (.bool false) H225) fun x77_226 H227 =>
    S.i x77_226
    (P0 (putE 106 (putE 106 (putE 106 (putE 106 (putE 106 (putE 106 (putE 106 (putE 106 (putE 106 (putE 106 (putE 106 (putE 106 (putE 106 (putE 106 (putE 106 (putE 106 (putE 106 (putE 106 (putE 106 (putE 106 (putE 106 (putE 106 (putE 106 (putE 106 (putE 106 (putE 106 (putE 106 (putE 106 (putE 106 (putE 106 (putE 106 (putE 106 (putE 106 (putE 106 (putE 106 (putE 106 (putE 106 (putE 106 (putE 106 (putE 106 (env0 [x0, x1]) (some 4) x4_132) (some 11) x11_134) (some 5) x5_136) none u138) (some 12) x0) (some 13) x1) (some 14) x14_140) (some 15) x15_142) (some 6) x15_142) (some 17) x15_142) (some 18) x18_144) (some 19) x18_144) (some 20) x20_146) (some 21) x21_148) (some 22) x22_150) (some 23) x22_150) (some 24) x24_152) (some 25) x25_154) (some 26) x26_156) (some 27) x26_156) (some 28) x28_158) (some 29) x29_160) (some 30) x30_162) (some 16) x30_162) (some 36) x15_142) (some 37) x37_170) (some 35) x37_170) (some 59) x15_142) (some 60) x60_204) (some 58) x60_204) (some 71) x15_142) (some 72) x72_218) (some 73) x72_218) (some 74) x74_220) (some 75) x75_222) (some 76) x76_224) (some 77) x77_226) (some 70) x77_226) (some 78) x1) (some 9) x1) H227)
    (S.b (ldA 3 x5_136 H227) fun x105_228 H229 =>
     S.b (stV 3 x4_132 x105_228 H229) fun u230 H231 =>
     (resM [(ldA 3 x4_132 H231).map (·.1)]).map fun l => (one l, H231)))))

theorem f33_main (S : Seam (Value × Heap)) (C : CallF) (n : Nat) (x0 : Value) (x1 : Value) (H : Heap) : acodeK S Tryd.prog C n 106 f33_c (env0 [x0, x1]) H (fin Tryd.prog Tryd.f33) = f33 S C n x0 x1 H := by
  have h1 : acodeK S Tryd.prog C n 106 f33_c (env0 [x0, x1]) H (fin Tryd.prog Tryd.f33) = f33G S C n (fun env H => aloopK (acodeK S Tryd.prog C n 106 (cAt f33_c [1, 1, 1, 0, 0, 1, 1, 1, 1, 1, 1, 1, 0, 1, 0, 0, 0])) n env H (kAt S Tryd.prog C n 106 f33_c [1, 1, 1, 0, 0, 1, 1, 1, 1, 1, 1, 1, 0, 1, 0, 0] (fin Tryd.prog Tryd.f33))) x0 x1 H := by kernel_rfl
  have e0 : (fun env H => aloopK (acodeK S Tryd.prog C n 106 (cAt f33_c [1, 1, 1, 0, 0, 1, 1, 1, 1, 1, 1, 1, 0, 1, 0, 0, 0])) n env H (kAt S Tryd.prog C n 106 f33_c [1, 1, 1, 0, 0, 1, 1, 1, 1, 1, 1, 1, 0, 1, 0, 0] (fin Tryd.prog Tryd.f33))) = (fun env H => f33_L0 S C n n (env 0) (env 1) (env 4) (env 5) (env 9) H) := by funext env H; exact f33_L0_eq S C n n env H
  rw [e0] at h1
  exact h1.trans (by kernel_rfl)


theorem f33_eq {E : Ext} (hE : E 33 = none) (n : Nat) (x0 : Value) (x1 : Value) (H : Heap) : acall Tryd.prog true E (n + 1) 33 [x0, x1] H = f33 real (acall Tryd.prog true E n) n x0 x1 H :=
  (acall_eq (N := 106) Tryd.func33 (by kernel_rfl) (by kernel_rfl) hE (by kernel_rfl) (by kernel_rfl)).trans (f33_main real _ n x0 x1 H)

/-! incunable/incunablelaw14.cuts -/
noncomputable def f34_c : Code := (Tryd.f34.body).getD .skip

noncomputable def f34_L0 (S : Seam (Value × Heap)) (C : CallF) (n : Nat) : Nat → Value → Value → Value → Heap → Option (Value × Heap)
 | 0, _, _, _, _ => none
 | m + 1, x1_33, x5_34, x8_35, H36 =>
   S.b (up (lenS x5_34) H36) fun x32_37 H38 =>
   S.b (up (binB Tryd.prog .lss 3 x8_35 x32_37) H38) fun x33_39 H40 =>
   S.i x33_39
   (S.b (up (iAddrS 3 x5_34 x8_35) H40) fun x38_41 H42 =>
    S.c true (S.b (ldA 3 x38_41 H42) fun x39_43 H44 =>
    S.b (up (binB Tryd.prog .mul 3 (.int .i64 3) x8_35) H44) fun x42_45 H46 =>
    S.b (up (iAddrS 1 x1_33 x42_45) H46) fun x43_47 H48 =>
    S.c true (S.b (ldC x43_47 H48) fun x44_49 H50 =>
    S.b (up (binB Tryd.prog .mul 3 (.int .i64 3) x8_35) H50) fun x47_51 H52 =>
    S.b (up (binB Tryd.prog .add 3 x47_51 (.int .i64 1)) H52) fun x48_53 H54 =>
    S.b (up (iAddrS 1 x1_33 x48_53) H54) fun x49_55 H56 =>
    S.c true (S.b (ldC x49_55 H56) fun x50_57 H58 =>
    S.b (up (binB Tryd.prog .mul 3 (.int .i64 3) x8_35) H58) fun x53_59 H60 =>
    S.b (up (binB Tryd.prog .add 3 x53_59 (.int .i64 2)) H60) fun x54_61 H62 =>
    S.b (up (iAddrS 1 x1_33 x54_61) H62) fun x55_63 H64 =>
    S.c true (S.b (ldC x55_63 H64) fun x56_65 H66 =>
    S.b (bld [(.int .i64 0), (.int .i64 0), (.int .i64 0)] [(0, 1, x44_49), (1, 1, x50_57), (2, 1, x56_65)] H66) fun x57_67 H68 =>
    S.b (up (binB Tryd.prog .neq 33 x39_43 x57_67) H68) fun x58_69 H70 =>
    S.i x58_69
    (some ((.bool false), H70))
    (S.b (up (binB Tryd.prog .add 3 x8_35 (.int .i64 1)) H70) fun x35_71 H72 =>
     f34_L0 S C n m x1_33 x5_34 x35_71 H72))))))
   (some ((.bool true), H40))

theorem f34_L0_eq (S : Seam (Value × Heap)) (C : CallF) (n : Nat) : ∀ (m : Nat) (env : Env) (H : Heap), aloopK (acodeK S Tryd.prog C n 59 (cAt f34_c [1, 1, 1, 0, 1, 0, 0])) m env H (kAt S Tryd.prog C n 59 f34_c [1, 1, 1, 0, 1, 0] (fin Tryd.prog Tryd.f34)) = f34_L0 S C n m (env 1) (env 5) (env 8) H := by
  intro m env H
  refine aloopK_eq (L := fun m env H => f34_L0 S C n m (env 1) (env 5) (env 8) H) (fun env H => rfl) (fun m env H => ?_) m env H
  kernel_rfl


noncomputable def f34 (S : Seam (Value × Heap)) (C : CallF) (n : Nat) (x0 : Value) (x1 : Value) (H : Heap) : Option (Value × Heap) :=
 S.b (ofStr x0 H) fun x11_1 H2 =>
 S.b (C 11 [x11_1] H2) fun x12_3 H4 =>
 S.b (extr 0 x12_3 H4) fun x13_5 H6 =>
 S.b (extr 1 x12_3 H6) fun x14_7 H8 =>
 S.b (extr 2 x12_3 H8) fun x15_9 H10 =>
 S.b (up (binB Tryd.prog .neq 25 x15_9 (.int .i64 0)) H10) fun x17_11 H12 =>
 S.b (gd (wd x17_11 false) (some (x14_7, H12)) H12) fun x19_13 H14 =>
 S.b (gd (wd x17_11 false) (up (binB Tryd.prog .neq 3 x19_13 (.int .i64 0)) H14) H14) fun x20_15 H16 =>
 S.b (pickV x17_11 (.bool true) x20_15 H16) fun x21_17 H18 =>
 S.b (gd (wd x21_17 false) (some (x13_5, H18)) H18) fun x23_19 H20 =>
 S.b (gd (wd x21_17 false) (up (lenS x23_19) H20) H20) fun x24_21 H22 =>
 S.b (gd (wd x21_17 false) (up (binB Tryd.prog .mul 3 (.int .i64 3) x24_21) H22) H22) fun x25_23 H24 =>
 S.b (gd (wd x21_17 false) (some (x1, H24)) H24) fun x26_25 H26 =>
 S.b (gd (wd x21_17 false) (up (lenS x26_25) H26) H26) fun x27_27 H28 =>
 S.b (gd (wd x21_17 false) (up (binB Tryd.prog .neq 3 x25_23 x27_27) H28) H28) fun x28_29 H30 =>
 S.b (pickV x21_17 (.bool true) x28_29 H30) fun x29_31 H32 =>
 S.i x29_31
 (some ((.bool false), H32))
 (f34_L0 S C n n x1 x13_5 (.int .i64 0) H32)

noncomputable def f34G (S : Seam (Value × Heap)) (C : CallF) (n : Nat) (P0 : Env → Heap → Option (Value × Heap)) (x0 : Value) (x1 : Value) (H : Heap) : Option (Value × Heap) :=
 S.b (ofStr x0 H) fun x11_73 H74 =>
 S.b (C 11 [x11_73] H74) fun x12_75 H76 =>
 S.b (extr 0 x12_75 H76) fun x13_77 H78 =>
 S.b (extr 1 x12_75 H78) fun x14_79 H80 =>
 S.b (extr 2 x12_75 H80) fun x15_81 H82 =>
 S.b (up (binB Tryd.prog .neq 25 x15_81 (.int .i64 0)) H82) fun x17_83 H84 =>
 S.b (gd (wd x17_83 false) (some (x14_79, H84)) H84) fun x19_85 H86 =>
 S.b (gd (wd x17_83 false) (up (binB Tryd.prog .neq 3 x19_85 (.int .i64 0)) H86) H86) fun x20_87 H88 =>
 S.b (pickV x17_83 (.bool true) x20_87 H88) fun x21_89 H90 =>
 S.b (gd (wd x21_89 false) (some (x13_77, H90)) H90) fun x23_91 H92 =>
 S.b (gd (wd x21_89 false) (up (lenS x23_91) H92) H92) fun x24_93 H94 =>
 S.b (gd (wd x21_89 false) (up (binB Tryd.prog .mul 3 (.int .i64 3) x24_93) H94) H94) fun x25_95 H96 =>
 S.b (gd (wd x21_89 false) (some (x1, H96)) H96) fun x26_97 H98 =>
 S.b (gd (wd x21_89 false) (up (lenS x26_97) H98) H98) fun x27_99 H100 =>
 S.b (gd (wd x21_89 false) (up (binB Tryd.prog .neq 3 x25_95 x27_99) H100) H100) fun x28_101 H102 =>
 S.b (pickV x21_89 (.bool true) x28_101 H102) fun x29_103 H104 =>
 S.i x29_103
 (some ((.bool false), H104))
 (P0 (putE 59 (putE 59 (putE 59 (putE 59 (putE 59 (putE 59 (putE 59 (putE 59 (putE 59 (putE 59 (putE 59 (putE 59 (putE 59 (putE 59 (putE 59 (putE 59 (putE 59 (putE 59 (putE 59 (putE 59 (putE 59 (putE 59 (putE 59 (putE 59 (putE 59 (putE 59 (env0 [x0, x1]) (some 4) (.bool false)) (some 10) x0) (some 11) x11_73) (some 12) x12_75) (some 9) x12_75) (some 13) x13_77) (some 14) x14_79) (some 15) x15_81) (some 5) x13_77) (some 6) x14_79) (some 7) x15_81) (some 16) x15_81) (some 17) x17_83) (some 18) x17_83) (some 19) x19_85) (some 20) x20_87) (some 21) x21_89) (some 22) x21_89) (some 23) x23_91) (some 24) x24_93) (some 25) x25_95) (some 26) x26_97) (some 27) x27_99) (some 28) x28_101) (some 29) x29_103) (some 8) (.int .i64 0)) H104)

theorem f34_main (S : Seam (Value × Heap)) (C : CallF) (n : Nat) (x0 : Value) (x1 : Value) (H : Heap) : acodeK S Tryd.prog C n 59 f34_c (env0 [x0, x1]) H (fin Tryd.prog Tryd.f34) = f34 S C n x0 x1 H := by
  have h1 : acodeK S Tryd.prog C n 59 f34_c (env0 [x0, x1]) H (fin Tryd.prog Tryd.f34) = f34G S C n (fun env H => aloopK (acodeK S Tryd.prog C n 59 (cAt f34_c [1, 1, 1, 0, 1, 0, 0])) n env H (kAt S Tryd.prog C n 59 f34_c [1, 1, 1, 0, 1, 0] (fin Tryd.prog Tryd.f34))) x0 x1 H := by kernel_rfl
  have e0 : (fun env H => aloopK (acodeK S Tryd.prog C n 59 (cAt f34_c [1, 1, 1, 0, 1, 0, 0])) n env H (kAt S Tryd.prog C n 59 f34_c [1, 1, 1, 0, 1, 0] (fin Tryd.prog Tryd.f34))) = (fun env H => f34_L0 S C n n (env 1) (env 5) (env 8) H) := by funext env H; exact f34_L0_eq S C n n env H
  rw [e0] at h1
  exact h1.trans (by kernel_rfl)


theorem f34_eq {E : Ext} (hE : E 34 = none) (n : Nat) (x0 : Value) (x1 : Value) (H : Heap) : acall Tryd.prog true E (n + 1) 34 [x0, x1] H = f34 real (acall Tryd.prog true E n) n x0 x1 H :=
  (acall_eq (N := 59) Tryd.func34 (by kernel_rfl) (by kernel_rfl) hE (by kernel_rfl) (by kernel_rfl)).trans (f34_main real _ n x0 x1 H)

/-! incunable/incunablelaw14.refuses -/
noncomputable def f35_c : Code := (Tryd.f35.body).getD .skip

noncomputable def f35 (S : Seam (Value × Heap)) (C : CallF) (n : Nat) (x0 : Value) (x1 : Value) (H : Heap) : Option (Value × Heap) :=
 S.b (ofStr x0 H) fun x10_1 H2 =>
 S.b (C 11 [x10_1] H2) fun x11_3 H4 =>
 S.b (extr 0 x11_3 H4) fun x12_5 H6 =>
 S.b (extr 1 x11_3 H6) fun x13_7 H8 =>
 S.b (extr 2 x11_3 H8) fun x14_9 H10 =>
 S.b (up (binB Tryd.prog .eql 25 x14_9 (.int .i64 140)) H10) fun x16_11 H12 =>
 S.b (gd (wd x16_11 true) (some (x13_7, H12)) H12) fun x18_13 H14 =>
 S.b (gd (wd x16_11 true) (some (x1, H14)) H14) fun x19_15 H16 =>
 S.b (gd (wd x16_11 true) (up (binB Tryd.prog .eql 3 x18_13 x19_15) H16) H16) fun x20_17 H18 =>
 S.b (pickV x16_11 x20_17 (.bool false) H18) fun x21_19 H20 =>
 S.b (gd (wd x21_19 true) (some (x12_5, H20)) H20) fun x23_21 H22 =>
 S.b (gd (wd x21_19 true) (up (lenS x23_21) H22) H22) fun x24_23 H24 =>
 S.b (gd (wd x21_19 true) (up (binB Tryd.prog .eql 3 x24_23 (.int .i64 0)) H24) H24) fun x25_25 H26 =>
 S.b (pickV x21_19 x25_25 (.bool false) H26) fun x26_27 H28 =>
 some (x26_27, H28)

theorem f35_main (S : Seam (Value × Heap)) (C : CallF) (n : Nat) (x0 : Value) (x1 : Value) (H : Heap) : acodeK S Tryd.prog C n 27 f35_c (env0 [x0, x1]) H (fin Tryd.prog Tryd.f35) = f35 S C n x0 x1 H := by
  kernel_rfl


theorem f35_eq {E : Ext} (hE : E 35 = none) (n : Nat) (x0 : Value) (x1 : Value) (H : Heap) : acall Tryd.prog true E (n + 1) 35 [x0, x1] H = f35 real (acall Tryd.prog true E n) n x0 x1 H :=
  (acall_eq (N := 27) Tryd.func35 (by kernel_rfl) (by kernel_rfl) hE (by kernel_rfl) (by kernel_rfl)).trans (f35_main real _ n x0 x1 H)

/-! incunable/words.isDigit -/
noncomputable def f36_c : Code := (Tryd.f36.body).getD .skip

noncomputable def f36 (S : Seam (Value × Heap)) (C : CallF) (n : Nat) (x0 : Value) (H : Heap) : Option (Value × Heap) :=
 S.b (up (binB Tryd.prog .leq 5 (.int .u8 48) x0) H) fun x4_1 H2 =>
 S.b (gd (wd x4_1 true) (some (x0, H2)) H2) fun x6_3 H4 =>
 S.b (gd (wd x4_1 true) (up (binB Tryd.prog .leq 5 x6_3 (.int .u8 57)) H4) H4) fun x7_5 H6 =>
 S.b (pickV x4_1 x7_5 (.bool false) H6) fun x8_7 H8 =>
 some (x8_7, H8)

theorem f36_main (S : Seam (Value × Heap)) (C : CallF) (n : Nat) (x0 : Value) (H : Heap) : acodeK S Tryd.prog C n 9 f36_c (env0 [x0]) H (fin Tryd.prog Tryd.f36) = f36 S C n x0 H := by
  kernel_rfl


theorem f36_eq {E : Ext} (hE : E 36 = none) (n : Nat) (x0 : Value) (H : Heap) : acall Tryd.prog true E (n + 1) 36 [x0] H = f36 real (acall Tryd.prog true E n) n x0 H :=
  (acall_eq (N := 9) Tryd.func36 (by kernel_rfl) (by kernel_rfl) hE (by kernel_rfl) (by kernel_rfl)).trans (f36_main real _ n x0 H)

/-! incunable/words.letters -/
noncomputable def f37_c : Code := (Tryd.f37.body).getD .skip

noncomputable def f37_L0 (S : Seam (Value × Heap)) (C : CallF) (n : Nat) : Nat → Value → Value → Value → Heap → Option (Value × Heap)
 | 0, _, _, _, _ => none
 | m + 1, x0_3, x5_4, x6_5, H6 =>
   S.b (up (binB Tryd.prog .lss 3 x6_5 x5_4) H6) fun x7_7 H8 =>
   S.i x7_7
   (S.b (up (idxS x0_3 x6_5) H8) fun x11_9 H10 =>
    S.b (C 58 [x11_9] H10) fun x12_11 H12 =>
    S.b (up (unB .not x12_11) H12) fun x13_13 H14 =>
    S.i x13_13
    (some (x6_5, H14))
    (S.b (up (binB Tryd.prog .add 3 x6_5 (.int .i64 1)) H14) fun x15_15 H16 =>
     f37_L0 S C n m x0_3 x5_4 x15_15 H16))
   (S.b (up (lenStr x0_3) H8) fun x17_17 H18 =>
    some (x17_17, H18))

theorem f37_L0_eq (S : Seam (Value × Heap)) (C : CallF) (n : Nat) : ∀ (m : Nat) (env : Env) (H : Heap), aloopK (acodeK S Tryd.prog C n 18 (cAt f37_c [1, 0, 1, 0, 0])) m env H (kAt S Tryd.prog C n 18 f37_c [1, 0, 1, 0] (fin Tryd.prog Tryd.f37)) = f37_L0 S C n m (env 0) (env 5) (env 6) H := by
  intro m env H
  refine aloopK_eq (L := fun m env H => f37_L0 S C n m (env 0) (env 5) (env 6) H) (fun env H => rfl) (fun m env H => ?_) m env H
  kernel_rfl


noncomputable def f37 (S : Seam (Value × Heap)) (C : CallF) (n : Nat) (x0 : Value) (H : Heap) : Option (Value × Heap) :=
 S.b (up (lenStr x0) H) fun x5_1 H2 =>
 f37_L0 S C n n x0 x5_1 (.int .i64 0) H2

noncomputable def f37G (S : Seam (Value × Heap)) (C : CallF) (n : Nat) (P0 : Env → Heap → Option (Value × Heap)) (x0 : Value) (H : Heap) : Option (Value × Heap) :=
 S.b (up (lenStr x0) H) fun x5_19 H20 =>
 P0 (putE 18 (putE 18 (putE 18 (putE 18 (env0 [x0]) (some 2) (.int .i64 0)) (some 4) x0) (some 5) x5_19) (some 6) (.int .i64 0)) H20

theorem f37_main (S : Seam (Value × Heap)) (C : CallF) (n : Nat) (x0 : Value) (H : Heap) : acodeK S Tryd.prog C n 18 f37_c (env0 [x0]) H (fin Tryd.prog Tryd.f37) = f37 S C n x0 H := by
  have h1 : acodeK S Tryd.prog C n 18 f37_c (env0 [x0]) H (fin Tryd.prog Tryd.f37) = f37G S C n (fun env H => aloopK (acodeK S Tryd.prog C n 18 (cAt f37_c [1, 0, 1, 0, 0])) n env H (kAt S Tryd.prog C n 18 f37_c [1, 0, 1, 0] (fin Tryd.prog Tryd.f37))) x0 H := by kernel_rfl
  have e0 : (fun env H => aloopK (acodeK S Tryd.prog C n 18 (cAt f37_c [1, 0, 1, 0, 0])) n env H (kAt S Tryd.prog C n 18 f37_c [1, 0, 1, 0] (fin Tryd.prog Tryd.f37))) = (fun env H => f37_L0 S C n n (env 0) (env 5) (env 6) H) := by funext env H; exact f37_L0_eq S C n n env H
  rw [e0] at h1
  exact h1.trans (by kernel_rfl)


theorem f37_eq {E : Ext} (hE : E 37 = none) (n : Nat) (x0 : Value) (H : Heap) : acall Tryd.prog true E (n + 1) 37 [x0] H = f37 real (acall Tryd.prog true E n) n x0 H :=
  (acall_eq (N := 18) Tryd.func37 (by kernel_rfl) (by kernel_rfl) hE (by kernel_rfl) (by kernel_rfl)).trans (f37_main real _ n x0 H)

/-! slices.Contains[[]string,string] -/
noncomputable def f38_c : Code := (Tryd.f38.body).getD .skip

noncomputable def f38 (S : Seam (Value × Heap)) (C : CallF) (n : Nat) (x0 : Value) (x1 : Value) (H : Heap) : Option (Value × Heap) :=
 S.b (C 59 [x0, x1] H) fun x7_1 H2 =>
 S.b (up (binB Tryd.prog .geq 3 x7_1 (.int .i64 0)) H2) fun x8_3 H4 =>
 some (x8_3, H4)

theorem f38_main (S : Seam (Value × Heap)) (C : CallF) (n : Nat) (x0 : Value) (x1 : Value) (H : Heap) : acodeK S Tryd.prog C n 9 f38_c (env0 [x0, x1]) H (fin Tryd.prog Tryd.f38) = f38 S C n x0 x1 H := by
  kernel_rfl


theorem f38_eq {E : Ext} (hE : E 38 = none) (n : Nat) (x0 : Value) (x1 : Value) (H : Heap) : acall Tryd.prog true E (n + 1) 38 [x0, x1] H = f38 real (acall Tryd.prog true E n) n x0 x1 H :=
  (acall_eq (N := 9) Tryd.func38 (by kernel_rfl) (by kernel_rfl) hE (by kernel_rfl) (by kernel_rfl)).trans (f38_main real _ n x0 x1 H)

/-! incunable/incunableref14.digit -/
noncomputable def f39_c : Code := (Tryd.f39.body).getD .skip

noncomputable def f39 (S : Seam (Value × Heap)) (C : CallF) (n : Nat) (x0 : Value) (H : Heap) : Option (Value × Heap) :=
 S.b (up (binB Tryd.prog .geq 5 x0 (.int .u8 48)) H) fun x4_1 H2 =>
 S.b (gd (wd x4_1 true) (some (x0, H2)) H2) fun x6_3 H4 =>
 S.b (gd (wd x4_1 true) (up (binB Tryd.prog .leq 5 x6_3 (.int .u8 57)) H4) H4) fun x7_5 H6 =>
 S.b (pickV x4_1 x7_5 (.bool false) H6) fun x8_7 H8 =>
 some (x8_7, H8)

theorem f39_main (S : Seam (Value × Heap)) (C : CallF) (n : Nat) (x0 : Value) (H : Heap) : acodeK S Tryd.prog C n 9 f39_c (env0 [x0]) H (fin Tryd.prog Tryd.f39) = f39 S C n x0 H := by
  kernel_rfl


theorem f39_eq {E : Ext} (hE : E 39 = none) (n : Nat) (x0 : Value) (H : Heap) : acall Tryd.prog true E (n + 1) 39 [x0] H = f39 real (acall Tryd.prog true E n) n x0 H :=
  (acall_eq (N := 9) Tryd.func39 (by kernel_rfl) (by kernel_rfl) hE (by kernel_rfl) (by kernel_rfl)).trans (f39_main real _ n x0 H)

/-! incunable/incunableref14.kind -/
noncomputable def f40_c : Code := (Tryd.f40.body).getD .skip

noncomputable def f40_L0 (S : Seam (Value × Heap)) (C : CallF) (n : Nat) : Nat → Value → Value → Heap → Option (Value × Heap)
 | 0, _, _, _ => none
 | m + 1, x0_1, x3_2, H3 =>
   S.b (up (binB Tryd.prog .leq 3 x3_2 (.int .i64 13)) H3) fun x5_4 H5 =>
   S.i x5_4
   (S.b (C 27 [x3_2] H5) fun x10_6 H7 =>
    S.b (up (binB Tryd.prog .eql 9 x0_1 x10_6) H7) fun x11_8 H9 =>
    S.i x11_8
    (some (x3_2, H9))
    (S.b (up (binB Tryd.prog .add 3 x3_2 (.int .i64 1)) H9) fun x7_10 H11 =>
     f40_L0 S C n m x0_1 x7_10 H11))
   (S.b (up (lenStr x0_1) H5) fun x14_12 H13 =>
    S.b (up (binB Tryd.prog .gtr 3 x14_12 (.int .i64 24)) H13) fun x15_14 H15 =>
    S.i x15_14
    (some ((.int .i64 0), H15))
    (some ((.int .i64 1), H15)))

theorem f40_L0_eq (S : Seam (Value × Heap)) (C : CallF) (n : Nat) : ∀ (m : Nat) (env : Env) (H : Heap), aloopK (acodeK S Tryd.prog C n 16 (cAt f40_c [1, 0, 1, 0, 0])) m env H (kAt S Tryd.prog C n 16 f40_c [1, 0, 1, 0] (fin Tryd.prog Tryd.f40)) = f40_L0 S C n m (env 0) (env 3) H := by
  intro m env H
  refine aloopK_eq (L := fun m env H => f40_L0 S C n m (env 0) (env 3) H) (fun env H => rfl) (fun m env H => ?_) m env H
  kernel_rfl


noncomputable def f40 (S : Seam (Value × Heap)) (C : CallF) (n : Nat) (x0 : Value) (H : Heap) : Option (Value × Heap) :=
 f40_L0 S C n n x0 (.int .i64 5) H

noncomputable def f40G (S : Seam (Value × Heap)) (C : CallF) (n : Nat) (P0 : Env → Heap → Option (Value × Heap)) (x0 : Value) (H : Heap) : Option (Value × Heap) :=
 P0 (putE 16 (putE 16 (env0 [x0]) (some 2) (.int .i64 0)) (some 3) (.int .i64 5)) H

theorem f40_main (S : Seam (Value × Heap)) (C : CallF) (n : Nat) (x0 : Value) (H : Heap) : acodeK S Tryd.prog C n 16 f40_c (env0 [x0]) H (fin Tryd.prog Tryd.f40) = f40 S C n x0 H := by
  have h1 : acodeK S Tryd.prog C n 16 f40_c (env0 [x0]) H (fin Tryd.prog Tryd.f40) = f40G S C n (fun env H => aloopK (acodeK S Tryd.prog C n 16 (cAt f40_c [1, 0, 1, 0, 0])) n env H (kAt S Tryd.prog C n 16 f40_c [1, 0, 1, 0] (fin Tryd.prog Tryd.f40))) x0 H := by kernel_rfl
  have e0 : (fun env H => aloopK (acodeK S Tryd.prog C n 16 (cAt f40_c [1, 0, 1, 0, 0])) n env H (kAt S Tryd.prog C n 16 f40_c [1, 0, 1, 0] (fin Tryd.prog Tryd.f40))) = (fun env H => f40_L0 S C n n (env 0) (env 3) H) := by funext env H; exact f40_L0_eq S C n n env H
  rw [e0] at h1
  exact h1.trans (by kernel_rfl)


theorem f40_eq {E : Ext} (hE : E 40 = none) (n : Nat) (x0 : Value) (H : Heap) : acall Tryd.prog true E (n + 1) 40 [x0] H = f40 real (acall Tryd.prog true E n) n x0 H :=
  (acall_eq (N := 16) Tryd.func40 (by kernel_rfl) (by kernel_rfl) hE (by kernel_rfl) (by kernel_rfl)).trans (f40_main real _ n x0 H)

/-! incunable/incunableref14.letter -/
noncomputable def f41_c : Code := (Tryd.f41.body).getD .skip

noncomputable def f41 (S : Seam (Value × Heap)) (C : CallF) (n : Nat) (x0 : Value) (H : Heap) : Option (Value × Heap) :=
 S.b (up (binB Tryd.prog .geq 5 x0 (.int .u8 97)) H) fun x4_1 H2 =>
 S.b (gd (wd x4_1 true) (some (x0, H2)) H2) fun x6_3 H4 =>
 S.b (gd (wd x4_1 true) (up (binB Tryd.prog .leq 5 x6_3 (.int .u8 122)) H4) H4) fun x7_5 H6 =>
 S.b (pickV x4_1 x7_5 (.bool false) H6) fun x8_7 H8 =>
 S.b (gd (wd x8_7 false) (some (x0, H8)) H8) fun x10_9 H10 =>
 S.b (gd (wd x8_7 false) (up (binB Tryd.prog .geq 5 x10_9 (.int .u8 65)) H10) H10) fun x11_11 H12 =>
 S.b (gd (wd x8_7 false) (some (x11_11, H12)) H12) fun x12_13 H14 =>
 S.b (gd (wd x12_13 true) (some (x0, H14)) H14) fun x13_15 H16 =>
 S.b (gd (wd x12_13 true) (up (binB Tryd.prog .leq 5 x13_15 (.int .u8 90)) H16) H16) fun x14_17 H18 =>
 S.b (gd (wd x8_7 false) (pickV x12_13 x14_17 (.bool false) H18) H18) fun x15_19 H20 =>
 S.b (pickV x8_7 (.bool true) x15_19 H20) fun x16_21 H22 =>
 S.b (gd (wd x16_21 false) (some (x0, H22)) H22) fun x18_23 H24 =>
 S.b (gd (wd x16_21 false) (up (binB Tryd.prog .geq 5 x18_23 (.int .u8 48)) H24) H24) fun x19_25 H26 =>
 S.b (gd (wd x16_21 false) (some (x19_25, H26)) H26) fun x20_27 H28 =>
 S.b (gd (wd x20_27 true) (some (x0, H28)) H28) fun x21_29 H30 =>
 S.b (gd (wd x20_27 true) (up (binB Tryd.prog .leq 5 x21_29 (.int .u8 57)) H30) H30) fun x22_31 H32 =>
 S.b (gd (wd x16_21 false) (pickV x20_27 x22_31 (.bool false) H32) H32) fun x23_33 H34 =>
 S.b (pickV x16_21 (.bool true) x23_33 H34) fun x24_35 H36 =>
 S.b (gd (wd x24_35 false) (some (x0, H36)) H36) fun x26_37 H38 =>
 S.b (gd (wd x24_35 false) (up (binB Tryd.prog .eql 5 x26_37 (.int .u8 95)) H38) H38) fun x27_39 H40 =>
 S.b (pickV x24_35 (.bool true) x27_39 H40) fun x28_41 H42 =>
 some (x28_41, H42)

theorem f41_main (S : Seam (Value × Heap)) (C : CallF) (n : Nat) (x0 : Value) (H : Heap) : acodeK S Tryd.prog C n 29 f41_c (env0 [x0]) H (fin Tryd.prog Tryd.f41) = f41 S C n x0 H := by
  kernel_rfl


theorem f41_eq {E : Ext} (hE : E 41 = none) (n : Nat) (x0 : Value) (H : Heap) : acall Tryd.prog true E (n + 1) 41 [x0] H = f41 real (acall Tryd.prog true E n) n x0 H :=
  (acall_eq (N := 29) Tryd.func41 (by kernel_rfl) (by kernel_rfl) hE (by kernel_rfl) (by kernel_rfl)).trans (f41_main real _ n x0 H)

/-! strings.ContainsFunc -/
noncomputable def f42_c : Code := (Tryd.f42.body).getD .skip

noncomputable def f42 (S : Seam (Value × Heap)) (C : CallF) (n : Nat) (x0 : Value) (x1 : Value) (H : Heap) : Option (Value × Heap) :=
 S.b (C 61 [x0, x1] H) fun x7_1 H2 =>
 S.b (up (binB Tryd.prog .geq 3 x7_1 (.int .i64 0)) H2) fun x8_3 H4 =>
 some (x8_3, H4)

theorem f42_main (S : Seam (Value × Heap)) (C : CallF) (n : Nat) (x0 : Value) (x1 : Value) (H : Heap) : acodeK S Tryd.prog C n 9 f42_c (env0 [x0, x1]) H (fin Tryd.prog Tryd.f42) = f42 S C n x0 x1 H := by
  kernel_rfl


theorem f42_eq {E : Ext} (hE : E 42 = none) (n : Nat) (x0 : Value) (x1 : Value) (H : Heap) : acall Tryd.prog true E (n + 1) 42 [x0, x1] H = f42 real (acall Tryd.prog true E n) n x0 x1 H :=
  (acall_eq (N := 9) Tryd.func42 (by kernel_rfl) (by kernel_rfl) hE (by kernel_rfl) (by kernel_rfl)).trans (f42_main real _ n x0 x1 H)

/-! incunable/words.IsPath$1 -/
noncomputable def f43_c : Code := (Tryd.f43.body).getD .skip

noncomputable def f43 (S : Seam (Value × Heap)) (C : CallF) (n : Nat) (x0 : Value) (H : Heap) : Option (Value × Heap) :=
 S.b (up (binB Tryd.prog .leq 21 (.int .i32 97) x0) H) fun x4_1 H2 =>
 S.b (gd (wd x4_1 true) (some (x0, H2)) H2) fun x6_3 H4 =>
 S.b (gd (wd x4_1 true) (up (binB Tryd.prog .leq 21 x6_3 (.int .i32 122)) H4) H4) fun x7_5 H6 =>
 S.b (pickV x4_1 x7_5 (.bool false) H6) fun x8_7 H8 =>
 S.b (gd (wd x8_7 false) (some (x0, H8)) H8) fun x10_9 H10 =>
 S.b (gd (wd x8_7 false) (up (binB Tryd.prog .leq 21 (.int .i32 48) x10_9) H10) H10) fun x11_11 H12 =>
 S.b (gd (wd x8_7 false) (some (x11_11, H12)) H12) fun x12_13 H14 =>
 S.b (gd (wd x12_13 true) (some (x0, H14)) H14) fun x13_15 H16 =>
 S.b (gd (wd x12_13 true) (up (binB Tryd.prog .leq 21 x13_15 (.int .i32 57)) H16) H16) fun x14_17 H18 =>
 S.b (gd (wd x8_7 false) (pickV x12_13 x14_17 (.bool false) H18) H18) fun x15_19 H20 =>
 S.b (pickV x8_7 (.bool true) x15_19 H20) fun x16_21 H22 =>
 S.b (gd (wd x16_21 false) (some (x0, H22)) H22) fun x18_23 H24 =>
 S.b (gd (wd x16_21 false) (C 44 [(.string ⟨#[46, 95, 45, 47]⟩), x18_23] H24) H24) fun x19_25 H26 =>
 S.b (pickV x16_21 (.bool true) x19_25 H26) fun x20_27 H28 =>
 S.b (up (unB .not x20_27) H28) fun x21_29 H30 =>
 some (x21_29, H30)

theorem f43_main (S : Seam (Value × Heap)) (C : CallF) (n : Nat) (x0 : Value) (H : Heap) : acodeK S Tryd.prog C n 22 f43_c (env0 [x0]) H (fin Tryd.prog Tryd.f43) = f43 S C n x0 H := by
  kernel_rfl


theorem f43_eq {E : Ext} (hE : E 43 = none) (n : Nat) (x0 : Value) (H : Heap) : acall Tryd.prog true E (n + 1) 43 [x0] H = f43 real (acall Tryd.prog true E n) n x0 H :=
  (acall_eq (N := 22) Tryd.func43 (by kernel_rfl) (by kernel_rfl) hE (by kernel_rfl) (by kernel_rfl)).trans (f43_main real _ n x0 H)

/-! strings.ContainsRune -/
noncomputable def f44_c : Code := (Tryd.f44.body).getD .skip

noncomputable def f44 (S : Seam (Value × Heap)) (C : CallF) (n : Nat) (x0 : Value) (x1 : Value) (H : Heap) : Option (Value × Heap) :=
 S.b (C 62 [x0, x1] H) fun x7_1 H2 =>
 S.b (up (binB Tryd.prog .geq 3 x7_1 (.int .i64 0)) H2) fun x8_3 H4 =>
 some (x8_3, H4)

theorem f44_main (S : Seam (Value × Heap)) (C : CallF) (n : Nat) (x0 : Value) (x1 : Value) (H : Heap) : acodeK S Tryd.prog C n 9 f44_c (env0 [x0, x1]) H (fin Tryd.prog Tryd.f44) = f44 S C n x0 x1 H := by
  kernel_rfl


theorem f44_eq {E : Ext} (hE : E 44 = none) (n : Nat) (x0 : Value) (x1 : Value) (H : Heap) : acall Tryd.prog true E (n + 1) 44 [x0, x1] H = f44 real (acall Tryd.prog true E n) n x0 x1 H :=
  (acall_eq (N := 9) Tryd.func44 (by kernel_rfl) (by kernel_rfl) hE (by kernel_rfl) (by kernel_rfl)).trans (f44_main real _ n x0 x1 H)

/-! incunable/words.ended -/
noncomputable def f45_c : Code := (Tryd.f45.body).getD .skip

noncomputable def f45_J1 (S : Seam (Value × Heap)) (C : CallF) (n : Nat) (R0 : Value→Value→Value→Value→Heap→Option (Value × Heap)) (x0_48 x1_49 x2_50 x7_51 : Value) (H52 : Heap) : Option (Value × Heap) :=
 S.b (up (binB Tryd.prog .add 3 x7_51 (.int .i64 1)) H52) fun x14_53 H54 =>
 R0 x0_48 x1_49 x2_50 x14_53 H54

noncomputable def f45_L0 (S : Seam (Value × Heap)) (C : CallF) (n : Nat) : Nat → Value → Value → Value → Value → Heap → Option (Value × Heap)
 | 0, _, _, _, _, _ => none
 | m + 1, x0_1, x1_2, x2_3, x7_4, H5 =>
   S.b (up (lenStr x0_1) H5) fun x11_6 H7 =>
   S.b (up (binB Tryd.prog .lss 3 x7_4 x11_6) H7) fun x12_8 H9 =>
   S.i x12_8
   (S.b (up (idxS x0_1 x7_4) H9) fun x17_10 H11 =>
    S.b (C 57 [(.string ⟨#[10, 13]⟩), x17_10] H11) fun x20_12 H13 =>
    S.b (up (binB Tryd.prog .geq 3 x20_12 (.int .i64 0)) H13) fun x21_14 H15 =>
    S.i x21_14
    (some ((.int .i64 (-1)), H15))
    (S.b (up (binB Tryd.prog .eql 5 x17_10 x1_2) H15) fun x25_16 H17 =>
     S.i x25_16
     (some (x7_4, H17))
     (S.b (up (binB Tryd.prog .eql 5 x17_10 x2_3) H17) fun x30_18 H19 =>
      S.i x30_18
      (S.b (up (binB Tryd.prog .add 3 x7_4 (.int .i64 1)) H19) fun x32_20 H21 =>
       S.b (up (lenStr x0_1) H21) fun x35_22 H23 =>
       S.b (up (binB Tryd.prog .lss 3 x32_20 x35_22) H23) fun x36_24 H25 =>
       S.b (gd (wd x36_24 true) (some (x0_1, H25)) H25) fun x38_26 H27 =>
       S.b (gd (wd x36_24 true) (some (x32_20, H27)) H27) fun x39_28 H29 =>
       S.b (gd (wd x36_24 true) (up (idxS x38_26 x39_28) H29) H29) fun x40_30 H31 =>
       S.b (gd (wd x36_24 true) (C 57 [(.string ⟨#[10, 13]⟩), x40_30] H31) H31) fun x41_32 H33 =>
       S.b (gd (wd x36_24 true) (up (binB Tryd.prog .geq 3 x41_32 (.int .i64 0)) H33) H33) fun x42_34 H35 =>
       S.b (pickV x36_24 x42_34 (.bool false) H35) fun x43_36 H37 =>
       S.i x43_36
       (some ((.int .i64 (-1)), H37))
       (f45_J1 S C n (f45_L0 S C n m) x0_1 x1_2 x2_3 x32_20 H37))
      (f45_J1 S C n (f45_L0 S C n m) x0_1 x1_2 x2_3 x7_4 H19))))
   (some ((.int .i64 (-1)), H9))

theorem f45_L0_eq (S : Seam (Value × Heap)) (C : CallF) (n : Nat) : ∀ (m : Nat) (env : Env) (H : Heap), aloopK (acodeK S Tryd.prog C n 44 (cAt f45_c [1, 0, 1, 0, 0])) m env H (kAt S Tryd.prog C n 44 f45_c [1, 0, 1, 0] (fin Tryd.prog Tryd.f45)) = f45_L0 S C n m (env 0) (env 1) (env 2) (env 7) H := by
  intro m env H
  refine aloopK_eq (L := fun m env H => f45_L0 S C n m (env 0) (env 1) (env 2) (env 7) H) (fun env H => rfl) (fun m env H => ?_) m env H
  kernel_rfl


noncomputable def f45 (S : Seam (Value × Heap)) (C : CallF) (n : Nat) (x0 : Value) (x1 : Value) (x2 : Value) (H : Heap) : Option (Value × Heap) :=
 f45_L0 S C n n x0 x1 x2 (.int .i64 0) H

noncomputable def f45G (S : Seam (Value × Heap)) (C : CallF) (n : Nat) (P0 : Env → Heap → Option (Value × Heap)) (x0 : Value) (x1 : Value) (x2 : Value) (H : Heap) : Option (Value × Heap) :=
 P0 (putE 44 (putE 44 (env0 [x0, x1, x2]) (some 6) (.int .i64 0)) (some 7) (.int .i64 0)) H

theorem f45_main (S : Seam (Value × Heap)) (C : CallF) (n : Nat) (x0 : Value) (x1 : Value) (x2 : Value) (H : Heap) : acodeK S Tryd.prog C n 44 f45_c (env0 [x0, x1, x2]) H (fin Tryd.prog Tryd.f45) = f45 S C n x0 x1 x2 H := by
  have h1 : acodeK S Tryd.prog C n 44 f45_c (env0 [x0, x1, x2]) H (fin Tryd.prog Tryd.f45) = f45G S C n (fun env H => aloopK (acodeK S Tryd.prog C n 44 (cAt f45_c [1, 0, 1, 0, 0])) n env H (kAt S Tryd.prog C n 44 f45_c [1, 0, 1, 0] (fin Tryd.prog Tryd.f45))) x0 x1 x2 H := by kernel_rfl
  have e0 : (fun env H => aloopK (acodeK S Tryd.prog C n 44 (cAt f45_c [1, 0, 1, 0, 0])) n env H (kAt S Tryd.prog C n 44 f45_c [1, 0, 1, 0] (fin Tryd.prog Tryd.f45))) = (fun env H => f45_L0 S C n n (env 0) (env 1) (env 2) (env 7) H) := by funext env H; exact f45_L0_eq S C n n env H
  rw [e0] at h1
  exact h1.trans (by kernel_rfl)


theorem f45_eq {E : Ext} (hE : E 45 = none) (n : Nat) (x0 : Value) (x1 : Value) (x2 : Value) (H : Heap) : acall Tryd.prog true E (n + 1) 45 [x0, x1, x2] H = f45 real (acall Tryd.prog true E n) n x0 x1 x2 H :=
  (acall_eq (N := 44) Tryd.func45 (by kernel_rfl) (by kernel_rfl) hE (by kernel_rfl) (by kernel_rfl)).trans (f45_main real _ n x0 x1 x2 H)

/-! bytes.trimLeftByte -/
noncomputable def f52_c : Code := (Tryd.f52.body).getD .skip

noncomputable def f52_L0 (S : Seam (Value × Heap)) (C : CallF) (n : Nat) : Nat → Value → Value → Heap → Option (Value × Heap)
 | 0, _, _, _ => none
 | m + 1, x0_1, x1_2, H3 =>
   S.b (up (lenS x0_1) H3) fun x6_4 H5 =>
   S.b (up (binB Tryd.prog .gtr 3 x6_4 (.int .i64 0)) H5) fun x7_6 H7 =>
   S.b (gd (wd x7_6 true) (some (x0_1, H7)) H7) fun x9_8 H9 =>
   S.b (gd (wd x7_6 true) (up (iAddrS 1 x9_8 (.int .i64 0)) H9) H9) fun x10_10 H11 =>
   S.b (gd (wd x7_6 true) (ldC x10_10 H11) H11) fun x11_12 H13 =>
   S.b (gd (wd x7_6 true) (some (x1_2, H13)) H13) fun x12_14 H15 =>
   S.b (gd (wd x7_6 true) (up (binB Tryd.prog .eql 5 x11_12 x12_14) H15) H15) fun x13_16 H17 =>
   S.b (pickV x7_6 x13_16 (.bool false) H17) fun x14_18 H19 =>
   S.i x14_18
   (S.b (up (slcS 1 x0_1 (some (.int .i64 1)) none none) H19) fun x16_20 H21 =>
    f52_L0 S C n m x16_20 x1_2 H21)
   (S.b (up (lenS x0_1) H19) fun x18_22 H23 =>
    S.b (up (binB Tryd.prog .eql 3 x18_22 (.int .i64 0)) H23) fun x19_24 H25 =>
    S.i x19_24
    (some ((.slice none 0 0), H25))
    (some (x0_1, H25)))

theorem f52_L0_eq (S : Seam (Value × Heap)) (C : CallF) (n : Nat) : ∀ (m : Nat) (env : Env) (H : Heap), aloopK (acodeK S Tryd.prog C n 21 (cAt f52_c [1, 0, 0, 0])) m env H (kAt S Tryd.prog C n 21 f52_c [1, 0, 0] (fin Tryd.prog Tryd.f52)) = f52_L0 S C n m (env 0) (env 1) H := by
  intro m env H
  refine aloopK_eq (L := fun m env H => f52_L0 S C n m (env 0) (env 1) H) (fun env H => rfl) (fun m env H => ?_) m env H
  kernel_rfl


noncomputable def f52 (S : Seam (Value × Heap)) (C : CallF) (n : Nat) (x0 : Value) (x1 : Value) (H : Heap) : Option (Value × Heap) :=
 f52_L0 S C n n x0 x1 H

noncomputable def f52G (S : Seam (Value × Heap)) (C : CallF) (n : Nat) (P0 : Env → Heap → Option (Value × Heap)) (x0 : Value) (x1 : Value) (H : Heap) : Option (Value × Heap) :=
 P0 (putE 21 (env0 [x0, x1]) (some 4) (.slice none 0 0)) H

theorem f52_main (S : Seam (Value × Heap)) (C : CallF) (n : Nat) (x0 : Value) (x1 : Value) (H : Heap) : acodeK S Tryd.prog C n 21 f52_c (env0 [x0, x1]) H (fin Tryd.prog Tryd.f52) = f52 S C n x0 x1 H := by
  have h1 : acodeK S Tryd.prog C n 21 f52_c (env0 [x0, x1]) H (fin Tryd.prog Tryd.f52) = f52G S C n (fun env H => aloopK (acodeK S Tryd.prog C n 21 (cAt f52_c [1, 0, 0, 0])) n env H (kAt S Tryd.prog C n 21 f52_c [1, 0, 0] (fin Tryd.prog Tryd.f52))) x0 x1 H := by kernel_rfl
  have e0 : (fun env H => aloopK (acodeK S Tryd.prog C n 21 (cAt f52_c [1, 0, 0, 0])) n env H (kAt S Tryd.prog C n 21 f52_c [1, 0, 0] (fin Tryd.prog Tryd.f52))) = (fun env H => f52_L0 S C n n (env 0) (env 1) H) := by funext env H; exact f52_L0_eq S C n n env H
  rw [e0] at h1
  exact h1.trans (by kernel_rfl)


theorem f52_eq {E : Ext} (hE : E 52 = none) (n : Nat) (x0 : Value) (x1 : Value) (H : Heap) : acall Tryd.prog true E (n + 1) 52 [x0, x1] H = f52 real (acall Tryd.prog true E n) n x0 x1 H :=
  (acall_eq (N := 21) Tryd.func52 (by kernel_rfl) (by kernel_rfl) hE (by kernel_rfl) (by kernel_rfl)).trans (f52_main real _ n x0 x1 H)

/-! bytes.makeASCIISet -/
noncomputable def f53_c : Code := (Tryd.f53.body).getD .skip

noncomputable def f53_L0 (S : Seam (Value × Heap)) (C : CallF) (n : Nat) : Nat → Value → Value → Value → Heap → Option (Value × Heap)
 | 0, _, _, _, _ => none
 | m + 1, x0_3, x2_4, x4_5, H6 =>
   S.b (up (lenStr x0_3) H6) fun x8_7 H8 =>
   S.b (up (binB Tryd.prog .lss 3 x4_5 x8_7) H8) fun x9_9 H10 =>
   S.i x9_9
   (S.b (up (idxS x0_3 x4_5) H10) fun x14_11 H12 =>
    S.b (up (binB Tryd.prog .geq 5 x14_11 (.int .u8 128)) H12) fun x16_13 H14 =>
    S.i x16_13
    (S.b (ldA 256 x2_4 H14) fun x17_15 H16 =>
     S.b (stV 256 x2_4 x17_15 H16) fun _ H17 =>
     (resM [(ldA 256 x2_4 H17).map (·.1), some (.bool false)]).map fun l => (one l, H17))
    (S.b (up (iAddrA 256 1 x2_4 x14_11) H14) fun x19_18 H19 =>
     S.b (stV 1 x19_18 (.bool true) H19) fun _ H20 =>
     S.b (up (binB Tryd.prog .add 3 x4_5 (.int .i64 1)) H20) fun x11_21 H22 =>
     f53_L0 S C n m x0_3 x2_4 x11_21 H22))
   (S.b (ldA 256 x2_4 H10) fun x20_23 H24 =>
    S.b (stV 256 x2_4 x20_23 H24) fun _ H25 =>
    (resM [(ldA 256 x2_4 H25).map (·.1), some (.bool true)]).map fun l => (one l, H25))

theorem f53_L0_eq (S : Seam (Value × Heap)) (C : CallF) (n : Nat) : ∀ (m : Nat) (env : Env) (H : Heap), aloopK (acodeK S Tryd.prog C n 21 (cAt f53_c [1, 0, 1, 0, 0])) m env H (kAt S Tryd.prog C n 21 f53_c [1, 0, 1, 0] (fin Tryd.prog Tryd.f53)) = f53_L0 S C n m (env 0) (env 2) (env 4) H := by
  intro m env H
  refine aloopK_eq (L := fun m env H => f53_L0 S C n m (env 0) (env 2) (env 4) H) (fun env H => rfl) (fun m env H => ?_) m env H
  kernel_rfl


noncomputable def f53 (S : Seam (Value × Heap)) (C : CallF) (n : Nat) (x0 : Value) (H : Heap) : Option (Value × Heap) :=
 S.b (newV (rep 256 [(.bool false)]) H) fun x2_1 H2 =>
 f53_L0 S C n n x0 x2_1 (.int .i64 0) H2

noncomputable def f53G (S : Seam (Value × Heap)) (C : CallF) (n : Nat) (P0 : Env → Heap → Option (Value × Heap)) (x0 : Value) (H : Heap) : Option (Value × Heap) :=
 S.b (newV (rep 256 [(.bool false)]) H) fun x2_26 H27 =>
 P0 (putE 21 (putE 21 (putE 21 (env0 [x0]) (some 2) x2_26) (some 3) (.bool false)) (some 4) (.int .i64 0)) H27

theorem f53_main (S : Seam (Value × Heap)) (C : CallF) (n : Nat) (x0 : Value) (H : Heap) : acodeK S Tryd.prog C n 21 f53_c (env0 [x0]) H (fin Tryd.prog Tryd.f53) = f53 S C n x0 H := by
  have h1 : acodeK S Tryd.prog C n 21 f53_c (env0 [x0]) H (fin Tryd.prog Tryd.f53) = f53G S C n (fun env H => aloopK (acodeK S Tryd.prog C n 21 (cAt f53_c [1, 0, 1, 0, 0])) n env H (kAt S Tryd.prog C n 21 f53_c [1, 0, 1, 0] (fin Tryd.prog Tryd.f53))) x0 H := by kernel_rfl
  have e0 : (fun env H => aloopK (acodeK S Tryd.prog C n 21 (cAt f53_c [1, 0, 1, 0, 0])) n env H (kAt S Tryd.prog C n 21 f53_c [1, 0, 1, 0] (fin Tryd.prog Tryd.f53))) = (fun env H => f53_L0 S C n n (env 0) (env 2) (env 4) H) := by funext env H; exact f53_L0_eq S C n n env H
  rw [e0] at h1
  exact h1.trans (by kernel_rfl)


theorem f53_eq {E : Ext} (hE : E 53 = none) (n : Nat) (x0 : Value) (H : Heap) : acall Tryd.prog true E (n + 1) 53 [x0] H = f53 real (acall Tryd.prog true E n) n x0 H :=
  (acall_eq (N := 21) Tryd.func53 (by kernel_rfl) (by kernel_rfl) hE (by kernel_rfl) (by kernel_rfl)).trans (f53_main real _ n x0 H)

/-! bytes.trimLeftASCII -/
noncomputable def f54_c : Code := (Tryd.f54.body).getD .skip

noncomputable def f54_J1 (S : Seam (Value × Heap)) (C : CallF) (n : Nat) (x0_18 : Value) (H19 : Heap) : Option (Value × Heap) :=
 S.b (up (lenS x0_18) H19) fun x17_20 H21 =>
 S.b (up (binB Tryd.prog .eql 3 x17_20 (.int .i64 0)) H21) fun x18_22 H23 =>
 S.i x18_22
 (some ((.slice none 0 0), H23))
 (some (x0_18, H23))

noncomputable def f54_L0 (S : Seam (Value × Heap)) (C : CallF) (n : Nat) : Nat → Value → Value → Heap → Option (Value × Heap)
 | 0, _, _, _ => none
 | m + 1, x0_1, x1_2, H3 =>
   S.b (up (lenS x0_1) H3) fun x6_4 H5 =>
   S.b (up (binB Tryd.prog .gtr 3 x6_4 (.int .i64 0)) H5) fun x7_6 H7 =>
   S.i x7_6
   (S.b (up (iAddrS 1 x0_1 (.int .i64 0)) H7) fun x10_8 H9 =>
    S.b (ldC x10_8 H9) fun x11_10 H11 =>
    S.b (C 68 [x1_2, x11_10] H11) fun x12_12 H13 =>
    S.b (up (unB .not x12_12) H13) fun x13_14 H15 =>
    S.i x13_14
    (f54_J1 S C n x0_1 H15)
    (S.b (up (slcS 1 x0_1 (some (.int .i64 1)) none none) H15) fun x15_24 H25 =>
     f54_L0 S C n m x15_24 x1_2 H25))
   (f54_J1 S C n x0_1 H7)

theorem f54_L0_eq (S : Seam (Value × Heap)) (C : CallF) (n : Nat) : ∀ (m : Nat) (env : Env) (H : Heap), aloopK (acodeK S Tryd.prog C n 20 (cAt f54_c [1, 0, 0, 0])) m env H (kAt S Tryd.prog C n 20 f54_c [1, 0, 0] (fin Tryd.prog Tryd.f54)) = f54_L0 S C n m (env 0) (env 1) H := by
  intro m env H
  refine aloopK_eq (L := fun m env H => f54_L0 S C n m (env 0) (env 1) H) (fun env H => rfl) (fun m env H => ?_) m env H
  kernel_rfl


noncomputable def f54 (S : Seam (Value × Heap)) (C : CallF) (n : Nat) (x0 : Value) (x1 : Value) (H : Heap) : Option (Value × Heap) :=
 f54_L0 S C n n x0 x1 H

noncomputable def f54G (S : Seam (Value × Heap)) (C : CallF) (n : Nat) (P0 : Env → Heap → Option (Value × Heap)) (x0 : Value) (x1 : Value) (H : Heap) : Option (Value × Heap) :=
 P0 (putE 20 (env0 [x0, x1]) (some 4) (.slice none 0 0)) H

theorem f54_main (S : Seam (Value × Heap)) (C : CallF) (n : Nat) (x0 : Value) (x1 : Value) (H : Heap) : acodeK S Tryd.prog C n 20 f54_c (env0 [x0, x1]) H (fin Tryd.prog Tryd.f54) = f54 S C n x0 x1 H := by
  have h1 : acodeK S Tryd.prog C n 20 f54_c (env0 [x0, x1]) H (fin Tryd.prog Tryd.f54) = f54G S C n (fun env H => aloopK (acodeK S Tryd.prog C n 20 (cAt f54_c [1, 0, 0, 0])) n env H (kAt S Tryd.prog C n 20 f54_c [1, 0, 0] (fin Tryd.prog Tryd.f54))) x0 x1 H := by kernel_rfl
  have e0 : (fun env H => aloopK (acodeK S Tryd.prog C n 20 (cAt f54_c [1, 0, 0, 0])) n env H (kAt S Tryd.prog C n 20 f54_c [1, 0, 0] (fin Tryd.prog Tryd.f54))) = (fun env H => f54_L0 S C n n (env 0) (env 1) H) := by funext env H; exact f54_L0_eq S C n n env H
  rw [e0] at h1
  exact h1.trans (by kernel_rfl)


theorem f54_eq {E : Ext} (hE : E 54 = none) (n : Nat) (x0 : Value) (x1 : Value) (H : Heap) : acall Tryd.prog true E (n + 1) 54 [x0, x1] H = f54 real (acall Tryd.prog true E n) n x0 x1 H :=
  (acall_eq (N := 20) Tryd.func54 (by kernel_rfl) (by kernel_rfl) hE (by kernel_rfl) (by kernel_rfl)).trans (f54_main real _ n x0 x1 H)

/-! bytes.Index -/
noncomputable def f56_c : Code := (Tryd.f56.body).getD .skip

noncomputable def f56_J1 (S : Seam (Value × Heap)) (C : CallF) (n : Nat) (R0 : Value→Value→Value→Value→Value→Value→Value→Value→Heap→Option (Value × Heap)) (x0_76 x1_77 x5_78 x6_79 x7_80 x8_81 x9_82 x10_83 : Value) (H84 : Heap) : Option (Value × Heap) :=
 S.b (up (binB Tryd.prog .add 3 x8_81 (.int .i64 1)) H84) fun x91_85 H86 =>
 S.b (up (iAddrS 1 x0_76 x91_85) H86) fun x92_87 H88 =>
 S.b (ldC x92_87 H88) fun x93_89 H90 =>
 S.b (up (binB Tryd.prog .eql 5 x93_89 x7_80) H90) fun x95_91 H92 =>
 S.b (gd (wd x95_91 true) (some (x0_76, H92)) H92) fun x97_93 H94 =>
 S.b (gd (wd x95_91 true) (some (x8_81, H94)) H94) fun x98_95 H96 =>
 S.b (gd (wd x95_91 true) (some (x8_81, H96)) H96) fun x99_97 H98 =>
 S.b (gd (wd x95_91 true) (some (x5_78, H98)) H98) fun x100_99 H100 =>
 S.b (gd (wd x95_91 true) (up (binB Tryd.prog .add 3 x99_97 x100_99) H100) H100) fun x101_101 H102 =>
 S.b (gd (wd x95_91 true) (up (slcS 1 x97_93 (some x98_95) (some x101_101) none) H102) H102) fun x102_103 H104 =>
 S.b (gd (wd x95_91 true) (some (x1_77, H104)) H104) fun x103_105 H106 =>
 S.b (gd (wd x95_91 true) (C 72 [x102_103, x103_105] H106) H106) fun x104_107 H108 =>
 S.b (pickV x95_91 x104_107 (.bool false) H108) fun x105_109 H110 =>
 S.i x105_109
 (some (x8_81, H110))
 (S.b (up (binB Tryd.prog .add 3 x10_83 (.int .i64 1)) H110) fun x108_111 H112 =>
  S.b (up (binB Tryd.prog .add 3 x8_81 (.int .i64 1)) H112) fun x110_113 H114 =>
  S.b (C 74 [x110_113] H114) fun x113_115 H116 =>
  S.b (up (binB Tryd.prog .gtr 3 x108_111 x113_115) H116) fun x114_117 H118 =>
  S.i x114_117
  (S.b (up (slcS 1 x0_76 (some x110_113) none none) H118) fun x117_119 H120 =>
   S.b (C 73 [x117_119, x1_77] H120) fun x119_121 H122 =>
   S.b (up (binB Tryd.prog .geq 3 x119_121 (.int .i64 0)) H122) fun x121_123 H124 =>
   S.i x121_123
   (S.b (up (binB Tryd.prog .add 3 x119_121 x110_113) H124) fun x124_125 H126 =>
    some (x124_125, H126))
   (some ((.int .i64 (-1)), H124)))
  (R0 x0_76 x1_77 x5_78 x6_79 x7_80 x110_113 x9_82 x108_111 H118))

noncomputable def f56_L0 (S : Seam (Value × Heap)) (C : CallF) (n : Nat) : Nat → Value → Value → Value → Value → Value → Value → Value → Value → Heap → Option (Value × Heap)
 | 0, _, _, _, _, _, _, _, _, _ => none
 | m + 1, x0_47, x1_48, x5_49, x6_50, x7_51, x8_52, x9_53, x10_54, H55 =>
   S.b (up (binB Tryd.prog .lss 3 x8_52 x9_53) H55) fun x69_56 H57 =>
   S.i x69_56
   (S.b (up (iAddrS 1 x0_47 x8_52) H57) fun x72_58 H59 =>
    S.b (ldC x72_58 H59) fun x73_60 H61 =>
    S.b (up (binB Tryd.prog .neq 5 x73_60 x6_50) H61) fun x75_62 H63 =>
    S.i x75_62
    (S.b (up (binB Tryd.prog .add 3 x8_52 (.int .i64 1)) H63) fun x78_64 H65 =>
     S.b (up (slcS 1 x0_47 (some x78_64) (some x9_53) none) H65) fun x80_66 H67 =>
     S.b (C 71 [x80_66, x6_50] H67) fun x82_68 H69 =>
     S.b (up (binB Tryd.prog .lss 3 x82_68 (.int .i64 0)) H69) fun x84_70 H71 =>
     S.i x84_70
     (some ((.int .i64 (-1)), H71))
     (S.b (up (binB Tryd.prog .add 3 x82_68 (.int .i64 1)) H71) fun x87_72 H73 =>
      S.b (up (binB Tryd.prog .add 3 x8_52 x87_72) H73) fun x88_74 H75 =>
      f56_J1 S C n (f56_L0 S C n m) x0_47 x1_48 x5_49 x6_50 x7_51 x88_74 x9_53 x10_54 H75))
    (f56_J1 S C n (f56_L0 S C n m) x0_47 x1_48 x5_49 x6_50 x7_51 x8_52 x9_53 x10_54 H63))
   (some ((.int .i64 (-1)), H57))

theorem f56_L0_eq (S : Seam (Value × Heap)) (C : CallF) (n : Nat) : ∀ (m : Nat) (env : Env) (H : Heap), aloopK (acodeK S Tryd.prog C n 200 (cAt f56_c [1, 1, 0, 0, 1, 1, 1, 1, 1, 1, 1, 1, 1, 0, 1, 1, 1, 1, 1, 1, 0, 0, 0])) m env H (kAt S Tryd.prog C n 200 f56_c [1, 1, 0, 0, 1, 1, 1, 1, 1, 1, 1, 1, 1, 0, 1, 1, 1, 1, 1, 1, 0, 0] (fin Tryd.prog Tryd.f56)) = f56_L0 S C n m (env 0) (env 1) (env 5) (env 6) (env 7) (env 8) (env 9) (env 10) H := by
  intro m env H
  refine aloopK_eq (L := fun m env H => f56_L0 S C n m (env 0) (env 1) (env 5) (env 6) (env 7) (env 8) (env 9) (env 10) H) (fun env H => rfl) (fun m env H => ?_) m env H
  kernel_rfl


noncomputable def f56_J2 (S : Seam (Value × Heap)) (C : CallF) (n : Nat) (R1 : Value→Value→Value→Value→Value→Value→Value→Value→Heap→Option (Value × Heap)) (x0_172 x1_173 x5_174 x13_175 x14_176 x15_177 x16_178 x17_179 : Value) (H180 : Heap) : Option (Value × Heap) :=
 S.b (up (binB Tryd.prog .add 3 x15_177 (.int .i64 1)) H180) fun x160_181 H182 =>
 S.b (up (iAddrS 1 x0_172 x160_181) H182) fun x161_183 H184 =>
 S.b (ldC x161_183 H184) fun x162_185 H186 =>
 S.b (up (binB Tryd.prog .eql 5 x162_185 x14_176) H186) fun x164_187 H188 =>
 S.b (gd (wd x164_187 true) (some (x0_172, H188)) H188) fun x166_189 H190 =>
 S.b (gd (wd x164_187 true) (some (x15_177, H190)) H190) fun x167_191 H192 =>
 S.b (gd (wd x164_187 true) (some (x15_177, H192)) H192) fun x168_193 H194 =>
 S.b (gd (wd x164_187 true) (some (x5_174, H194)) H194) fun x169_195 H196 =>
 S.b (gd (wd x164_187 true) (up (binB Tryd.prog .add 3 x168_193 x169_195) H196) H196) fun x170_197 H198 =>
 S.b (gd (wd x164_187 true) (up (slcS 1 x166_189 (some x167_191) (some x170_197) none) H198) H198) fun x171_199 H200 =>
 S.b (gd (wd x164_187 true) (some (x1_173, H200)) H200) fun x172_201 H202 =>
 S.b (gd (wd x164_187 true) (C 72 [x171_199, x172_201] H202) H202) fun x173_203 H204 =>
 S.b (pickV x164_187 x173_203 (.bool false) H204) fun x174_205 H206 =>
 S.i x174_205
 (some (x15_177, H206))
 (S.b (up (binB Tryd.prog .add 3 x15_177 (.int .i64 1)) H206) fun x177_207 H208 =>
  S.b (up (binB Tryd.prog .add 3 x16_178 (.int .i64 1)) H208) fun x179_209 H210 =>
  S.b (up (binB Tryd.prog .shr 3 x177_207 (.int .u64 4)) H210) fun x182_211 H212 =>
  S.b (up (binB Tryd.prog .add 3 (.int .i64 4) x182_211) H212) fun x183_213 H214 =>
  S.b (up (binB Tryd.prog .geq 3 x179_209 x183_213) H214) fun x184_215 H216 =>
  S.b (gd (wd x184_215 true) (some (x177_207, H216)) H216) fun x186_217 H218 =>
  S.b (gd (wd x184_215 true) (some (x17_179, H218)) H218) fun x187_219 H220 =>
  S.b (gd (wd x184_215 true) (up (binB Tryd.prog .lss 3 x186_217 x187_219) H220) H220) fun x188_221 H222 =>
  S.b (pickV x184_215 x188_221 (.bool false) H222) fun x189_223 H224 =>
  S.i x189_223
  (S.b (up (slcS 1 x0_172 (some x177_207) none none) H224) fun x192_225 H226 =>
   S.b (C 75 [x192_225, x1_173] H226) fun x194_227 H228 =>
   S.b (up (binB Tryd.prog .lss 3 x194_227 (.int .i64 0)) H228) fun x196_229 H230 =>
   S.i x196_229
   (some ((.int .i64 (-1)), H230))
   (S.b (up (binB Tryd.prog .add 3 x177_207 x194_227) H230) fun x199_231 H232 =>
    some (x199_231, H232)))
  (R1 x0_172 x1_173 x5_174 x13_175 x14_176 x177_207 x179_209 x17_179 H224))

noncomputable def f56_L1 (S : Seam (Value × Heap)) (C : CallF) (n : Nat) : Nat → Value → Value → Value → Value → Value → Value → Value → Value → Heap → Option (Value × Heap)
 | 0, _, _, _, _, _, _, _, _, _ => none
 | m + 1, x0_141, x1_142, x5_143, x13_144, x14_145, x15_146, x16_147, x17_148, H149 =>
   S.b (up (binB Tryd.prog .lss 3 x15_146 x17_148) H149) fun x138_150 H151 =>
   S.i x138_150
   (S.b (up (iAddrS 1 x0_141 x15_146) H151) fun x141_152 H153 =>
    S.b (ldC x141_152 H153) fun x142_154 H155 =>
    S.b (up (binB Tryd.prog .neq 5 x142_154 x13_144) H155) fun x144_156 H157 =>
    S.i x144_156
    (S.b (up (binB Tryd.prog .add 3 x15_146 (.int .i64 1)) H157) fun x147_158 H159 =>
     S.b (up (slcS 1 x0_141 (some x147_158) (some x17_148) none) H159) fun x149_160 H161 =>
     S.b (C 71 [x149_160, x13_144] H161) fun x151_162 H163 =>
     S.b (up (binB Tryd.prog .lss 3 x151_162 (.int .i64 0)) H163) fun x153_164 H165 =>
     S.i x153_164
     (some ((.int .i64 (-1)), H165))
     (S.b (up (binB Tryd.prog .add 3 x151_162 (.int .i64 1)) H165) fun x156_168 H169 =>
      S.b (up (binB Tryd.prog .add 3 x15_146 x156_168) H169) fun x157_170 H171 =>
      f56_J2 S C n (f56_L1 S C n m) x0_141 x1_142 x5_143 x13_144 x14_145 x157_170 x16_147 x17_148 H171))
    (f56_J2 S C n (f56_L1 S C n m) x0_141 x1_142 x5_143 x13_144 x14_145 x15_146 x16_147 x17_148 H157))
   (some ((.int .i64 (-1)), H151))

theorem f56_L1_eq (S : Seam (Value × Heap)) (C : CallF) (n : Nat) : ∀ (m : Nat) (env : Env) (H : Heap), aloopK (acodeK S Tryd.prog C n 200 (cAt f56_c [1, 1, 1, 1, 1, 1, 1, 1, 0, 0, 0])) m env H (kAt S Tryd.prog C n 200 f56_c [1, 1, 1, 1, 1, 1, 1, 1, 0, 0] (fin Tryd.prog Tryd.f56)) = f56_L1 S C n m (env 0) (env 1) (env 5) (env 13) (env 14) (env 15) (env 16) (env 17) H := by
  intro m env H
  refine aloopK_eq (L := fun m env H => f56_L1 S C n m (env 0) (env 1) (env 5) (env 13) (env 14) (env 15) (env 16) (env 17) H) (fun env H => rfl) (fun m env H => ?_) m env H
  kernel_rfl


noncomputable def f56 (S : Seam (Value × Heap)) (C : CallF) (n : Nat) (x0 : Value) (x1 : Value) (H : Heap) : Option (Value × Heap) :=
 S.b (up (lenS x1) H) fun x21_1 H2 =>
 S.b (up (binB Tryd.prog .eql 3 x21_1 (.int .i64 0)) H2) fun x24_3 H4 =>
 S.i x24_3
 (some ((.int .i64 0), H4))
 (S.b (up (binB Tryd.prog .eql 3 x21_1 (.int .i64 1)) H4) fun x27_5 H6 =>
  S.i x27_5
  (S.b (up (iAddrS 1 x1 (.int .i64 0)) H6) fun x30_7 H8 =>
   S.b (ldC x30_7 H8) fun x31_9 H10 =>
   S.b (C 71 [x0, x31_9] H10) fun x32_11 H12 =>
   some (x32_11, H12))
  (S.b (up (lenS x0) H6) fun x36_13 H14 =>
   S.b (up (binB Tryd.prog .eql 3 x21_1 x36_13) H14) fun x37_15 H16 =>
   S.i x37_15
   (S.b (C 72 [x1, x0] H16) fun x40_17 H18 =>
    S.i x40_17
    (some ((.int .i64 0), H18))
    (some ((.int .i64 (-1)), H18)))
   (S.b (up (lenS x0) H16) fun x44_19 H20 =>
    S.b (up (binB Tryd.prog .gtr 3 x21_1 x44_19) H20) fun x45_21 H22 =>
    S.i x45_21
    (some ((.int .i64 (-1)), H22))
    (S.b (ldC (.pointer (some ⟨1, 0, none⟩)) H22) fun x48_23 H24 =>
     S.b (up (binB Tryd.prog .leq 3 x21_1 x48_23) H24) fun x49_25 H26 =>
     S.i x49_25
     (S.b (up (lenS x0) H26) fun x51_27 H28 =>
      S.b (up (binB Tryd.prog .leq 3 x51_27 (.int .i64 64)) H28) fun x52_29 H30 =>
      S.i x52_29
      (S.b (C 73 [x0, x1] H30) fun x55_31 H32 =>
       some (x55_31, H32))
      (S.b (up (iAddrS 1 x1 (.int .i64 0)) H30) fun x57_33 H34 =>
       S.b (ldC x57_33 H34) fun x58_35 H36 =>
       S.b (up (iAddrS 1 x1 (.int .i64 1)) H36) fun x60_37 H38 =>
       S.b (ldC x60_37 H38) fun x61_39 H40 =>
       S.b (up (lenS x0) H40) fun x63_41 H42 =>
       S.b (up (binB Tryd.prog .sub 3 x63_41 x21_1) H42) fun x65_43 H44 =>
       S.b (up (binB Tryd.prog .add 3 x65_43 (.int .i64 1)) H44) fun x66_45 H46 =>
       f56_L0 S C n n x0 x1 x21_1 x58_35 x61_39 (.int .i64 0) x66_45 (.int .i64 0) H46))
     (S.b (up (iAddrS 1 x1 (.int .i64 0)) H26) fun x126_127 H128 =>
      S.b (ldC x126_127 H128) fun x127_129 H130 =>
      S.b (up (iAddrS 1 x1 (.int .i64 1)) H130) fun x129_131 H132 =>
      S.b (ldC x129_131 H132) fun x130_133 H134 =>
      S.b (up (lenS x0) H134) fun x132_135 H136 =>
      S.b (up (binB Tryd.prog .sub 3 x132_135 x21_1) H136) fun x134_137 H138 =>
      S.b (up (binB Tryd.prog .add 3 x134_137 (.int .i64 1)) H138) fun x135_139 H140 =>
      f56_L1 S C n n x0 x1 x21_1 x127_129 x130_133 (.int .i64 0) (.int .i64 0) x135_139 H140)))))

noncomputable def f56G (S : Seam (Value × Heap)) (C : CallF) (n : Nat) (P0 : Env → Heap → Option (Value × Heap)) (P1 : Env → Heap → Option (Value × Heap)) (x0 : Value) (x1 : Value) (H : Heap) : Option (Value × Heap) :=
 S.b (up (lenS x1) H) fun x21_233 H234 =>
 S.b (up (binB Tryd.prog .eql 3 x21_233 (.int .i64 0)) H234) fun x24_235 H236 =>
 S.i x24_235
 (some ((.int .i64 0), H236))
 (S.b (up (binB Tryd.prog .eql 3 x21_233 (.int .i64 1)) H236) fun x27_237 H238 =>
  S.i x27_237
  (S.b (up (iAddrS 1 x1 (.int .i64 0)) H238) fun x30_239 H240 =>
   S.b (ldC x30_239 H240) fun x31_241 H242 =>
   S.b (C 71 [x0, x31_241] H242) fun x32_243 H244 =>
   some (x32_243, H244))
  (S.b (up (lenS x0) H238) fun x36_245 H246 =>
   S.b (up (binB Tryd.prog .eql 3 x21_233 x36_245) H246) fun x37_247 H248 =>
   S.i x37_247
   (S.b (C 72 [x1, x0] H248) fun x40_249 H250 =>
    S.i x40_249
    (some ((.int .i64 0), H250))
    (some ((.int .i64 (-1)), H250)))
   (S.b (up (lenS x0) H248) fun x44_251 H252 =>
    S.b (up (binB Tryd.prog .gtr 3 x21_233 x44_251) H252) fun x45_253 H254 =>
    S.i x45_253
    (some ((.int .i64 (-1)), H254))
    (S.b (ldC (.pointer (some ⟨1, 0, none⟩)) H254) fun x48_255 H256 =>
     S.b (up (binB Tryd.prog .leq 3 x21_233 x48_255) H256) fun x49_257 H258 =>
     S.i x49_257
     (S.b (up (lenS x0) H258) fun x51_259 H260 =>
      S.b (up (binB Tryd.prog .leq 3 x51_259 (.int .i64 64)) H260) fun x52_261 H262 =>
      S.i x52_261
      (S.b (C 73 [x0, x1] H262) fun x55_263 H264 =>
       some (x55_263, H264))
      (S.b (up (iAddrS 1 x1 (.int .i64 0)) H262) fun x57_265 H266 =>
       S.b (ldC x57_265 H266) fun x58_267 H268 =>
       S.b (up (iAddrS 1 x1 (.int .i64 1)) H268) fun x60_269 H270 =>
       S.b (ldC x60_269 H270) fun x61_271 H272 =>
       S.b (up (lenS x0) H272) fun x63_273 H274 =>
       S.b (up (binB Tryd.prog .sub 3 x63_273 x21_233) H274) fun x65_275 H276 =>
       S.b (up (binB Tryd.prog .add 3 x65_275 (.int .i64 1)) H276) fun x66_277 H278 =>
       P0 (putE 200 (putE 200 (putE 200 (putE 200 (putE 200 (putE 200 (putE 200 (putE 200 (putE 200 (putE 200 (putE 200 (putE 200 (putE 200 (putE 200 (putE 200 (putE 200 (putE 200 (putE 200 (putE 200 (putE 200 (putE 200 (putE 200 (putE 200 (putE 200 (putE 200 (putE 200 (putE 200 (putE 200 (putE 200 (putE 200 (putE 200 (putE 200 (putE 200 (putE 200 (putE 200 (putE 200 (putE 200 (putE 200 (putE 200 (putE 200 (putE 200 (putE 200 (putE 200 (env0 [x0, x1]) (some 4) (.int .i64 0)) (some 20) x1) (some 21) x21_233) (some 5) x21_233) (some 23) x21_233) (some 24) x24_235) (some 22) x24_235) (some 26) x21_233) (some 27) x27_237) (some 25) x27_237) (some 34) x21_233) (some 35) x0) (some 36) x36_245) (some 37) x37_247) (some 33) x37_247) (some 42) x21_233) (some 43) x0) (some 44) x44_251) (some 45) x45_253) (some 41) x45_253) (some 47) x21_233) (some 48) x48_255) (some 49) x49_257) (some 46) x49_257) (some 50) x0) (some 51) x51_259) (some 52) x52_261) (some 56) x1) (some 57) x57_265) (some 58) x58_267) (some 6) x58_267) (some 59) x1) (some 60) x60_269) (some 61) x61_271) (some 7) x61_271) (some 8) (.int .i64 0)) (some 62) x0) (some 63) x63_273) (some 64) x21_233) (some 65) x65_275) (some 66) x66_277) (some 9) x66_277) (some 10) (.int .i64 0)) H278))
     (S.b (up (iAddrS 1 x1 (.int .i64 0)) H258) fun x126_279 H280 =>
      S.b (ldC x126_279 H280) fun x127_281 H282 =>
      S.b (up (iAddrS 1 x1 (.int .i64 1)) H282) fun x129_283 H284 =>
      S.b (ldC x129_283 H284) fun x130_285 H286 =>
      S.b (up (lenS x0) H286) fun x132_287 H288 =>
      S.b (up (binB Tryd.prog .sub 3 x132_287 x21_233) H288) fun x134_289 H290 =>
      S.b (up (binB Tryd.prog .add 3 x134_289 (.int .i64 1)) H290) fun x135_291 H292 =>
      P1 (putE 200 (putE 200 (putE 200 (putE 200 (putE 200 (putE 200 (putE 200 (putE 200 (putE 200 (putE 200 (putE 200 (putE 200 (putE 200 (putE 200 (putE 200 (putE 200 (putE 200 (putE 200 (putE 200 (putE 200 (putE 200 (putE 200 (putE 200 (putE 200 (putE 200 (putE 200 (putE 200 (putE 200 (putE 200 (putE 200 (putE 200 (putE 200 (putE 200 (putE 200 (putE 200 (putE 200 (putE 200 (putE 200 (putE 200 (putE 200 (env0 [x0, x1]) (some 4) (.int .i64 0)) (some 20) x1) (some 21) x21_233) (some 5) x21_233) (some 23) x21_233) (some 24) x24_235) (some 22) x24_235) (some 26) x21_233) (some 27) x27_237) (some 25) x27_237) (some 34) x21_233) (some 35) x0) (some 36) x36_245) (some 37) x37_247) (some 33) x37_247) (some 42) x21_233) (some 43) x0) (some 44) x44_251) (some 45) x45_253) (some 41) x45_253) (some 47) x21_233) (some 48) x48_255) (some 49) x49_257) (some 46) x49_257) (some 125) x1) (some 126) x126_279) (some 127) x127_281) (some 13) x127_281) (some 128) x1) (some 129) x129_283) (some 130) x130_285) (some 14) x130_285) (some 15) (.int .i64 0)) (some 16) (.int .i64 0)) (some 131) x0) (some 132) x132_287) (some 133) x21_233) (some 134) x134_289) (some 135) x135_291) (some 17) x135_291) H292)))))

theorem f56_main (S : Seam (Value × Heap)) (C : CallF) (n : Nat) (x0 : Value) (x1 : Value) (H : Heap) : acodeK S Tryd.prog C n 200 f56_c (env0 [x0, x1]) H (fin Tryd.prog Tryd.f56) = f56 S C n x0 x1 H := by
  have h1 : acodeK S Tryd.prog C n 200 f56_c (env0 [x0, x1]) H (fin Tryd.prog Tryd.f56) = f56G S C n (fun env H => aloopK (acodeK S Tryd.prog C n 200 (cAt f56_c [1, 1, 0, 0, 1, 1, 1, 1, 1, 1, 1, 1, 1, 0, 1, 1, 1, 1, 1, 1, 0, 0, 0])) n env H (kAt S Tryd.prog C n 200 f56_c [1, 1, 0, 0, 1, 1, 1, 1, 1, 1, 1, 1, 1, 0, 1, 1, 1, 1, 1, 1, 0, 0] (fin Tryd.prog Tryd.f56))) (fun env H => aloopK (acodeK S Tryd.prog C n 200 (cAt f56_c [1, 1, 1, 1, 1, 1, 1, 1, 0, 0, 0])) n env H (kAt S Tryd.prog C n 200 f56_c [1, 1, 1, 1, 1, 1, 1, 1, 0, 0] (fin Tryd.prog Tryd.f56))) x0 x1 H := by kernel_rfl
  have e0 : (fun env H => aloopK (acodeK S Tryd.prog C n 200 (cAt f56_c [1, 1, 0, 0, 1, 1, 1, 1, 1, 1, 1, 1, 1, 0, 1, 1, 1, 1, 1, 1, 0, 0, 0])) n env H (kAt S Tryd.prog C n 200 f56_c [1, 1, 0, 0, 1, 1, 1, 1, 1, 1, 1, 1, 1, 0, 1, 1, 1, 1, 1, 1, 0, 0] (fin Tryd.prog Tryd.f56))) = (fun env H => f56_L0 S C n n (env 0) (env 1) (env 5) (env 6) (env 7) (env 8) (env 9) (env 10) H) := by funext env H; exact f56_L0_eq S C n n env H
  have e1 : (fun env H => aloopK (acodeK S Tryd.prog C n 200 (cAt f56_c [1, 1, 1, 1, 1, 1, 1, 1, 0, 0, 0])) n env H (kAt S Tryd.prog C n 200 f56_c [1, 1, 1, 1, 1, 1, 1, 1, 0, 0] (fin Tryd.prog Tryd.f56))) = (fun env H => f56_L1 S C n n (env 0) (env 1) (env 5) (env 13) (env 14) (env 15) (env 16) (env 17) H) := by funext env H; exact f56_L1_eq S C n n env H
  rw [e0, e1] at h1
  exact h1.trans (by kernel_rfl)


theorem f56_eq {E : Ext} (hE : E 56 = none) (n : Nat) (x0 : Value) (x1 : Value) (H : Heap) : acall Tryd.prog true E (n + 1) 56 [x0, x1] H = f56 real (acall Tryd.prog true E n) n x0 x1 H :=
  (acall_eq (N := 200) Tryd.func56 (by kernel_rfl) (by kernel_rfl) hE (by kernel_rfl) (by kernel_rfl)).trans (f56_main real _ n x0 x1 H)

/-! strings.IndexByte -/
noncomputable def f57_c : Code := (Tryd.f57.body).getD .skip

noncomputable def f57 (S : Seam (Value × Heap)) (C : CallF) (n : Nat) (x0 : Value) (x1 : Value) (H : Heap) : Option (Value × Heap) :=
 S.b (C 76 [x0, x1] H) fun x7_1 H2 =>
 some (x7_1, H2)

theorem f57_main (S : Seam (Value × Heap)) (C : CallF) (n : Nat) (x0 : Value) (x1 : Value) (H : Heap) : acodeK S Tryd.prog C n 8 f57_c (env0 [x0, x1]) H (fin Tryd.prog Tryd.f57) = f57 S C n x0 x1 H := by
  kernel_rfl


theorem f57_eq {E : Ext} (hE : E 57 = none) (n : Nat) (x0 : Value) (x1 : Value) (H : Heap) : acall Tryd.prog true E (n + 1) 57 [x0, x1] H = f57 real (acall Tryd.prog true E n) n x0 x1 H :=
  (acall_eq (N := 8) Tryd.func57 (by kernel_rfl) (by kernel_rfl) hE (by kernel_rfl) (by kernel_rfl)).trans (f57_main real _ n x0 x1 H)

/-! incunable/words.isLetter -/
noncomputable def f58_c : Code := (Tryd.f58.body).getD .skip

noncomputable def f58 (S : Seam (Value × Heap)) (C : CallF) (n : Nat) (x0 : Value) (H : Heap) : Option (Value × Heap) :=
 S.b (up (binB Tryd.prog .leq 5 (.int .u8 97) x0) H) fun x4_1 H2 =>
 S.b (gd (wd x4_1 true) (some (x0, H2)) H2) fun x6_3 H4 =>
 S.b (gd (wd x4_1 true) (up (binB Tryd.prog .leq 5 x6_3 (.int .u8 122)) H4) H4) fun x7_5 H6 =>
 S.b (pickV x4_1 x7_5 (.bool false) H6) fun x8_7 H8 =>
 S.b (gd (wd x8_7 false) (some (x0, H8)) H8) fun x10_9 H10 =>
 S.b (gd (wd x8_7 false) (up (binB Tryd.prog .leq 5 (.int .u8 65) x10_9) H10) H10) fun x11_11 H12 =>
 S.b (gd (wd x8_7 false) (some (x11_11, H12)) H12) fun x12_13 H14 =>
 S.b (gd (wd x12_13 true) (some (x0, H14)) H14) fun x13_15 H16 =>
 S.b (gd (wd x12_13 true) (up (binB Tryd.prog .leq 5 x13_15 (.int .u8 90)) H16) H16) fun x14_17 H18 =>
 S.b (gd (wd x8_7 false) (pickV x12_13 x14_17 (.bool false) H18) H18) fun x15_19 H20 =>
 S.b (pickV x8_7 (.bool true) x15_19 H20) fun x16_21 H22 =>
 S.b (gd (wd x16_21 false) (some (x0, H22)) H22) fun x18_23 H24 =>
 S.b (gd (wd x16_21 false) (C 36 [x18_23] H24) H24) fun x19_25 H26 =>
 S.b (pickV x16_21 (.bool true) x19_25 H26) fun x20_27 H28 =>
 S.b (gd (wd x20_27 false) (some (x0, H28)) H28) fun x22_29 H30 =>
 S.b (gd (wd x20_27 false) (up (binB Tryd.prog .eql 5 x22_29 (.int .u8 95)) H30) H30) fun x23_31 H32 =>
 S.b (pickV x20_27 (.bool true) x23_31 H32) fun x24_33 H34 =>
 some (x24_33, H34)

theorem f58_main (S : Seam (Value × Heap)) (C : CallF) (n : Nat) (x0 : Value) (H : Heap) : acodeK S Tryd.prog C n 25 f58_c (env0 [x0]) H (fin Tryd.prog Tryd.f58) = f58 S C n x0 H := by
  kernel_rfl


theorem f58_eq {E : Ext} (hE : E 58 = none) (n : Nat) (x0 : Value) (H : Heap) : acall Tryd.prog true E (n + 1) 58 [x0] H = f58 real (acall Tryd.prog true E n) n x0 H :=
  (acall_eq (N := 25) Tryd.func58 (by kernel_rfl) (by kernel_rfl) hE (by kernel_rfl) (by kernel_rfl)).trans (f58_main real _ n x0 H)

/-! slices.Index[[]string,string] -/
noncomputable def f59_c : Code := (Tryd.f59.body).getD .skip

noncomputable def f59_L0 (S : Seam (Value × Heap)) (C : CallF) (n : Nat) : Nat → Value → Value → Value → Value → Heap → Option (Value × Heap)
 | 0, _, _, _, _, _ => none
 | m + 1, x0_3, x1_4, x7_5, x8_6, H7 =>
   S.b (up (binB Tryd.prog .lss 3 x8_6 x7_5) H7) fun x9_8 H9 =>
   S.i x9_8
   (S.b (up (iAddrS 1 x0_3 x8_6) H9) fun x14_10 H11 =>
    S.b (ldC x14_10 H11) fun x15_12 H13 =>
    S.b (up (binB Tryd.prog .eql 9 x1_4 x15_12) H13) fun x16_14 H15 =>
    S.i x16_14
    (some (x8_6, H15))
    (S.b (up (binB Tryd.prog .add 3 x8_6 (.int .i64 1)) H15) fun x18_16 H17 =>
     f59_L0 S C n m x0_3 x1_4 x7_5 x18_16 H17))
   (some ((.int .i64 (-1)), H9))

theorem f59_L0_eq (S : Seam (Value × Heap)) (C : CallF) (n : Nat) : ∀ (m : Nat) (env : Env) (H : Heap), aloopK (acodeK S Tryd.prog C n 19 (cAt f59_c [1, 0, 1, 0, 0])) m env H (kAt S Tryd.prog C n 19 f59_c [1, 0, 1, 0] (fin Tryd.prog Tryd.f59)) = f59_L0 S C n m (env 0) (env 1) (env 7) (env 8) H := by
  intro m env H
  refine aloopK_eq (L := fun m env H => f59_L0 S C n m (env 0) (env 1) (env 7) (env 8) H) (fun env H => rfl) (fun m env H => ?_) m env H
  kernel_rfl


noncomputable def f59 (S : Seam (Value × Heap)) (C : CallF) (n : Nat) (x0 : Value) (x1 : Value) (H : Heap) : Option (Value × Heap) :=
 S.b (up (lenS x0) H) fun x7_1 H2 =>
 f59_L0 S C n n x0 x1 x7_1 (.int .i64 0) H2

noncomputable def f59G (S : Seam (Value × Heap)) (C : CallF) (n : Nat) (P0 : Env → Heap → Option (Value × Heap)) (x0 : Value) (x1 : Value) (H : Heap) : Option (Value × Heap) :=
 S.b (up (lenS x0) H) fun x7_18 H19 =>
 P0 (putE 19 (putE 19 (putE 19 (putE 19 (env0 [x0, x1]) (some 4) (.int .i64 0)) (some 6) x0) (some 7) x7_18) (some 8) (.int .i64 0)) H19

theorem f59_main (S : Seam (Value × Heap)) (C : CallF) (n : Nat) (x0 : Value) (x1 : Value) (H : Heap) : acodeK S Tryd.prog C n 19 f59_c (env0 [x0, x1]) H (fin Tryd.prog Tryd.f59) = f59 S C n x0 x1 H := by
  have h1 : acodeK S Tryd.prog C n 19 f59_c (env0 [x0, x1]) H (fin Tryd.prog Tryd.f59) = f59G S C n (fun env H => aloopK (acodeK S Tryd.prog C n 19 (cAt f59_c [1, 0, 1, 0, 0])) n env H (kAt S Tryd.prog C n 19 f59_c [1, 0, 1, 0] (fin Tryd.prog Tryd.f59))) x0 x1 H := by kernel_rfl
  have e0 : (fun env H => aloopK (acodeK S Tryd.prog C n 19 (cAt f59_c [1, 0, 1, 0, 0])) n env H (kAt S Tryd.prog C n 19 f59_c [1, 0, 1, 0] (fin Tryd.prog Tryd.f59))) = (fun env H => f59_L0 S C n n (env 0) (env 1) (env 7) (env 8) H) := by funext env H; exact f59_L0_eq S C n n env H
  rw [e0] at h1
  exact h1.trans (by kernel_rfl)


theorem f59_eq {E : Ext} (hE : E 59 = none) (n : Nat) (x0 : Value) (x1 : Value) (H : Heap) : acall Tryd.prog true E (n + 1) 59 [x0, x1] H = f59 real (acall Tryd.prog true E n) n x0 x1 H :=
  (acall_eq (N := 19) Tryd.func59 (by kernel_rfl) (by kernel_rfl) hE (by kernel_rfl) (by kernel_rfl)).trans (f59_main real _ n x0 x1 H)

/-! incunable/incunableref14.ended -/
noncomputable def f60_c : Code := (Tryd.f60.body).getD .skip

noncomputable def f60_J1 (S : Seam (Value × Heap)) (C : CallF) (n : Nat) (R0 : Value→Value→Value→Heap→Option (Value × Heap)) (x0_95 x1_96 x5_97 : Value) (H98 : Heap) : Option (Value × Heap) :=
 S.b (up (binB Tryd.prog .add 3 x5_97 (.int .i64 1)) H98) fun x13_99 H100 =>
 R0 x0_95 x1_96 x13_99 H100

noncomputable def f60_L0 (S : Seam (Value × Heap)) (C : CallF) (n : Nat) : Nat → Value → Value → Value → Heap → Option (Value × Heap)
 | 0, _, _, _, _ => none
 | m + 1, x0_3, x1_4, x5_5, H6 =>
   S.b (up (lenS x0_3) H6) fun x10_7 H8 =>
   S.b (up (binB Tryd.prog .lss 3 x5_5 x10_7) H8) fun x11_9 H10 =>
   S.i x11_9
   (S.b (up (iAddrS 1 x0_3 x5_5) H10) fun x16_11 H12 =>
    S.b (ldC x16_11 H12) fun x17_13 H14 =>
    S.b (up (binB Tryd.prog .eql 5 x17_13 (.int .u8 10)) H14) fun x18_15 H16 =>
    S.b (gd (wd x18_15 false) (some (x0_3, H16)) H16) fun x20_17 H18 =>
    S.b (gd (wd x18_15 false) (some (x5_5, H18)) H18) fun x21_19 H20 =>
    S.b (gd (wd x18_15 false) (up (iAddrS 1 x20_17 x21_19) H20) H20) fun x22_21 H22 =>
    S.b (gd (wd x18_15 false) (ldC x22_21 H22) H22) fun x23_23 H24 =>
    S.b (gd (wd x18_15 false) (up (binB Tryd.prog .eql 5 x23_23 (.int .u8 13)) H24) H24) fun x24_25 H26 =>
    S.b (pickV x18_15 (.bool true) x24_25 H26) fun x25_27 H28 =>
    S.i x25_27
    (some ((.int .i64 (-1)), H28))
    (S.b (up (iAddrS 1 x0_3 x5_5) H28) fun x28_29 H30 =>
     S.c true (S.b (ldC x28_29 H30) fun x29_31 H32 =>
     S.b (up (iAddrS 1 x0_3 x1_4) H32) fun x32_33 H34 =>
     S.c true (S.b (ldC x32_33 H34) fun x33_35 H36 =>
     S.b (up (binB Tryd.prog .eql 5 x29_31 x33_35) H36) fun x34_37 H38 =>
     S.i x34_37
     (S.b (up (binB Tryd.prog .add 3 x5_5 (.int .i64 1)) H38) fun x36_39 H40 =>
      some (x36_39, H40))
     (S.b (up (iAddrS 1 x0_3 x5_5) H38) fun x39_41 H42 =>
      S.b (ldC x39_41 H42) fun x40_43 H44 =>
      S.b (up (binB Tryd.prog .eql 5 x40_43 (.int .u8 92)) H44) fun x41_45 H46 =>
      S.b (gd (wd x41_45 true) (some (x0_3, H46)) H46) fun x43_47 H48 =>
      S.b (gd (wd x41_45 true) (some (x1_4, H48)) H48) fun x44_49 H50 =>
      S.b (gd (wd x41_45 true) (up (iAddrS 1 x43_47 x44_49) H50) H50) fun x45_51 H52 =>
      S.b (gd (wd x41_45 true) (ldC x45_51 H52) H52) fun x46_53 H54 =>
      S.b (gd (wd x41_45 true) (up (binB Tryd.prog .eql 5 x46_53 (.int .u8 47)) H54) H54) fun x47_55 H56 =>
      S.b (pickV x41_45 x47_55 (.bool false) H56) fun x48_57 H58 =>
      S.i x48_57
      (S.b (up (binB Tryd.prog .add 3 x5_5 (.int .i64 1)) H58) fun x50_59 H60 =>
       S.b (up (lenS x0_3) H60) fun x53_61 H62 =>
       S.b (up (binB Tryd.prog .lss 3 x50_59 x53_61) H62) fun x54_63 H64 =>
       S.b (gd (wd x54_63 true) (some (x0_3, H64)) H64) fun x56_65 H66 =>
       S.b (gd (wd x54_63 true) (some (x50_59, H66)) H66) fun x57_67 H68 =>
       S.b (gd (wd x54_63 true) (up (iAddrS 1 x56_65 x57_67) H68) H68) fun x58_69 H70 =>
       S.b (gd (wd x54_63 true) (ldC x58_69 H70) H70) fun x59_71 H72 =>
       S.b (gd (wd x54_63 true) (up (binB Tryd.prog .eql 5 x59_71 (.int .u8 10)) H72) H72) fun x60_73 H74 =>
       S.b (gd (wd x54_63 true) (some (x60_73, H74)) H74) fun x61_75 H76 =>
       S.b (gd (wd x61_75 false) (some (x0_3, H76)) H76) fun x62_77 H78 =>
       S.b (gd (wd x61_75 false) (some (x50_59, H78)) H78) fun x63_79 H80 =>
       S.b (gd (wd x61_75 false) (up (iAddrS 1 x62_77 x63_79) H80) H80) fun x64_81 H82 =>
       S.b (gd (wd x61_75 false) (ldC x64_81 H82) H82) fun x65_83 H84 =>
       S.b (gd (wd x61_75 false) (up (binB Tryd.prog .eql 5 x65_83 (.int .u8 13)) H84) H84) fun x66_85 H86 =>
       S.b (gd (wd x54_63 true) (pickV x61_75 (.bool true) x66_85 H86) H86) fun x67_87 H88 =>
       S.b (pickV x54_63 x67_87 (.bool false) H88) fun x68_89 H90 =>
       S.i x68_89
       (some ((.int .i64 (-1)), H90))
       (f60_J1 S C n (f60_L0 S C n m) x0_3 x1_4 x50_59 H90))
      (f60_J1 S C n (f60_L0 S C n m) x0_3 x1_4 x5_5 H58))))))
   (some ((.int .i64 (-1)), H10))

theorem f60_L0_eq (S : Seam (Value × Heap)) (C : CallF) (n : Nat) : ∀ (m : Nat) (env : Env) (H : Heap), aloopK (acodeK S Tryd.prog C n 69 (cAt f60_c [1, 0, 1, 0, 0])) m env H (kAt S Tryd.prog C n 69 f60_c [1, 0, 1, 0] (fin Tryd.prog Tryd.f60)) = f60_L0 S C n m (env 0) (env 1) (env 5) H := by
  intro m env H
  refine aloopK_eq (L := fun m env H => f60_L0 S C n m (env 0) (env 1) (env 5) H) (fun env H => rfl) (fun m env H => ?_) m env H
  kernel_rfl


noncomputable def f60 (S : Seam (Value × Heap)) (C : CallF) (n : Nat) (x0 : Value) (x1 : Value) (H : Heap) : Option (Value × Heap) :=
 S.b (up (binB Tryd.prog .add 3 x1 (.int .i64 1)) H) fun x7_1 H2 =>
 f60_L0 S C n n x0 x1 x7_1 H2

noncomputable def f60G (S : Seam (Value × Heap)) (C : CallF) (n : Nat) (P0 : Env → Heap → Option (Value × Heap)) (x0 : Value) (x1 : Value) (H : Heap) : Option (Value × Heap) :=
 S.b (up (binB Tryd.prog .add 3 x1 (.int .i64 1)) H) fun x7_101 H102 =>
 P0 (putE 69 (putE 69 (putE 69 (putE 69 (env0 [x0, x1]) (some 4) (.int .i64 0)) (some 6) x1) (some 7) x7_101) (some 5) x7_101) H102

theorem f60_main (S : Seam (Value × Heap)) (C : CallF) (n : Nat) (x0 : Value) (x1 : Value) (H : Heap) : acodeK S Tryd.prog C n 69 f60_c (env0 [x0, x1]) H (fin Tryd.prog Tryd.f60) = f60 S C n x0 x1 H := by
  have h1 : acodeK S Tryd.prog C n 69 f60_c (env0 [x0, x1]) H (fin Tryd.prog Tryd.f60) = f60G S C n (fun env H => aloopK (acodeK S Tryd.prog C n 69 (cAt f60_c [1, 0, 1, 0, 0])) n env H (kAt S Tryd.prog C n 69 f60_c [1, 0, 1, 0] (fin Tryd.prog Tryd.f60))) x0 x1 H := by kernel_rfl
  have e0 : (fun env H => aloopK (acodeK S Tryd.prog C n 69 (cAt f60_c [1, 0, 1, 0, 0])) n env H (kAt S Tryd.prog C n 69 f60_c [1, 0, 1, 0] (fin Tryd.prog Tryd.f60))) = (fun env H => f60_L0 S C n n (env 0) (env 1) (env 5) H) := by funext env H; exact f60_L0_eq S C n n env H
  rw [e0] at h1
  exact h1.trans (by kernel_rfl)


theorem f60_eq {E : Ext} (hE : E 60 = none) (n : Nat) (x0 : Value) (x1 : Value) (H : Heap) : acall Tryd.prog true E (n + 1) 60 [x0, x1] H = f60 real (acall Tryd.prog true E n) n x0 x1 H :=
  (acall_eq (N := 69) Tryd.func60 (by kernel_rfl) (by kernel_rfl) hE (by kernel_rfl) (by kernel_rfl)).trans (f60_main real _ n x0 x1 H)

/-! strings.IndexFunc -/
noncomputable def f61_c : Code := (Tryd.f61.body).getD .skip

noncomputable def f61 (S : Seam (Value × Heap)) (C : CallF) (n : Nat) (x0 : Value) (x1 : Value) (H : Heap) : Option (Value × Heap) :=
 S.b (C 77 [x0, x1, (.bool true)] H) fun x7_1 H2 =>
 some (x7_1, H2)

theorem f61_main (S : Seam (Value × Heap)) (C : CallF) (n : Nat) (x0 : Value) (x1 : Value) (H : Heap) : acodeK S Tryd.prog C n 8 f61_c (env0 [x0, x1]) H (fin Tryd.prog Tryd.f61) = f61 S C n x0 x1 H := by
  kernel_rfl


theorem f61_eq {E : Ext} (hE : E 61 = none) (n : Nat) (x0 : Value) (x1 : Value) (H : Heap) : acall Tryd.prog true E (n + 1) 61 [x0, x1] H = f61 real (acall Tryd.prog true E n) n x0 x1 H :=
  (acall_eq (N := 8) Tryd.func61 (by kernel_rfl) (by kernel_rfl) hE (by kernel_rfl) (by kernel_rfl)).trans (f61_main real _ n x0 x1 H)

/-! strings.IndexRune -/
noncomputable def f62_c : Code := (Tryd.f62.body).getD .skip

noncomputable def f62_L0 (S : Seam (Value × Heap)) (C : CallF) (n : Nat) : Nat → Value → Heap → Option (Value × Heap)
 | 0, _, _ => none
 | m + 1, x175_17, H18 =>
   S.b (nxtS x175_17 H18) fun x176_19 H20 =>
   S.b (extr 0 x176_19 H20) fun x177_21 H22 =>
   S.i x177_21
   (S.b (extr 1 x176_19 H22) fun x178_23 H24 =>
    S.b (extr 2 x176_19 H24) fun x179_25 H26 =>
    S.b (up (binB Tryd.prog .eql 21 x179_25 (.int .i32 65533)) H26) fun x181_27 H28 =>
    S.i x181_27
    (some (x178_23, H28))
    (f62_L0 S C n m x175_17 H28))
   (some ((.int .i64 (-1)), H22))

theorem f62_L0_eq (S : Seam (Value × Heap)) (C : CallF) (n : Nat) : ∀ (m : Nat) (env : Env) (H : Heap), aloopK (acodeK S Tryd.prog C n 187 (cAt f62_c [1, 0, 1, 1, 1, 0, 0, 1, 0, 0])) m env H (kAt S Tryd.prog C n 187 f62_c [1, 0, 1, 1, 1, 0, 0, 1, 0] (fin Tryd.prog Tryd.f62)) = f62_L0 S C n m (env 175) H := by
  intro m env H
  refine aloopK_eq (L := fun m env H => f62_L0 S C n m (env 175) H) (fun env H => rfl) (fun m env H => ?_) m env H
  kernel_rfl


noncomputable def f62_L2 (S : Seam (Value × Heap)) (C : CallF) (n : Nat) (R1 : Value→Value→Value→Value→Heap→Option (Value × Heap)) : Nat → Value → Value → Value → Value → Value → Heap → Option (Value × Heap)
 | 0, _, _, _, _, _, _ => none
 | m + 1, x0_73, x7_74, x8_75, x9_76, x12_77, H78 =>
   S.b (up (lenStr x7_74) H78) fun x50_79 H80 =>
   S.b (up (binB Tryd.prog .lss 3 x12_77 x50_79) H80) fun x51_81 H82 =>
   S.i x51_81
   (S.b (up (binB Tryd.prog .sub 3 x9_76 x12_77) H82) fun x57_83 H84 =>
    S.b (up (idxS x0_73 x57_83) H84) fun x58_85 H86 =>
    S.b (up (binB Tryd.prog .sub 3 x8_75 x12_77) H86) fun x62_87 H88 =>
    S.b (up (idxS x7_74 x62_87) H88) fun x63_89 H90 =>
    S.b (up (binB Tryd.prog .neq 5 x58_85 x63_89) H90) fun x64_91 H92 =>
    S.i x64_91
    (none)
    (S.b (up (binB Tryd.prog .add 3 x12_77 (.int .i64 1)) H92) fun x53_93 H94 =>
     f62_L2 S C n R1 m x0_73 x7_74 x8_75 x9_76 x53_93 H94))
   (S.b (up (binB Tryd.prog .sub 3 x9_76 x8_75) H82) fun x67_95 H96 =>
    some (x67_95, H96))

theorem f62_L2_eq (S : Seam (Value × Heap)) (C : CallF) (n : Nat) (R1 : Value→Value→Value→Value→Heap→Option (Value × Heap)) : ∀ (m : Nat) (env : Env) (H : Heap), aloopK (acodeK S Tryd.prog C n 187 (cAt f62_c [1, 0, 1, 1, 1, 1, 1, 1, 0, 1, 1, 1, 1, 0, 0, 0, 1, 0, 0, 1, 0, 1, 0, 0])) m env H (kAt S Tryd.prog C n 187 (cAt f62_c [1, 0, 1, 1, 1, 1, 1, 1, 0, 1, 1, 1, 1, 0, 0, 0]) [1, 0, 0, 1, 0, 1, 0] (onNormal (fun env' H' => R1 (env' 0) (env' 7) (env' 8) (env' 9) H') (kAt S Tryd.prog C n 187 f62_c [1, 0, 1, 1, 1, 1, 1, 1, 0, 1, 1, 1, 1, 0, 0] (fin Tryd.prog Tryd.f62)))) = f62_L2 S C n R1 m (env 0) (env 7) (env 8) (env 9) (env 12) H := by
  intro m env H
  refine aloopK_eq (L := fun m env H => f62_L2 S C n R1 m (env 0) (env 7) (env 8) (env 9) (env 12) H) (fun env H => rfl) (fun m env H => ?_) m env H
  kernel_rfl


noncomputable def f62_L1 (S : Seam (Value × Heap)) (C : CallF) (n : Nat) : Nat → Value → Value → Value → Value → Heap → Option (Value × Heap)
 | 0, _, _, _, _, _ => none
 | m + 1, x0_39, x7_40, x8_41, x9_42, H43 =>
   S.b (up (lenStr x0_39) H43) fun x25_44 H45 =>
   S.b (up (binB Tryd.prog .lss 3 x9_42 x25_44) H45) fun x26_46 H47 =>
   S.i x26_46
   (S.b (up (idxS x0_39 x9_42) H47) fun x29_48 H49 =>
    S.b (up (idxS x7_40 x8_41) H49) fun x32_50 H51 =>
    S.b (up (binB Tryd.prog .neq 5 x29_48 x32_50) H51) fun x33_52 H53 =>
    S.i x33_52
    (S.b (up (binB Tryd.prog .add 3 x9_42 (.int .i64 1)) H53) fun x36_54 H55 =>
     S.b (up (slcStr x0_39 (some x36_54) none) H55) fun x37_56 H57 =>
     S.b (up (idxS x7_40 x8_41) H57) fun x40_58 H59 =>
     S.b (C 57 [x37_56, x40_58] H59) fun x41_60 H61 =>
     S.c true (S.b (up (binB Tryd.prog .lss 3 x41_60 (.int .i64 0)) H61) fun x43_62 H63 =>
      S.i x43_62
      (some ((.int .i64 (-1)), H63))
      (S.b (up (binB Tryd.prog .add 3 x41_60 (.int .i64 1)) H63) fun x46_64 H65 =>
       S.b (up (binB Tryd.prog .add 3 x9_42 x46_64) H65) fun x47_66 H67 =>
       f62_L2 S C n (f62_L1 S C n m) n x0_39 x7_40 x8_41 x47_66 (.int .i64 1) H67)))
    (f62_L2 S C n (f62_L1 S C n m) n x0_39 x7_40 x8_41 x9_42 (.int .i64 1) H53))
   (some ((.int .i64 (-1)), H47))

noncomputable def f62_L1G (S : Seam (Value × Heap)) (C : CallF) (n : Nat) (R1 : Value→Value→Value→Value→Heap→Option (Value × Heap)) (P2 : Env → Heap → Option (Value × Heap)) (env : Env) (H : Heap) : Option (Value × Heap) :=
 S.b (up (lenStr (env 0)) H) fun x25_97 H98 =>
 S.b (up (binB Tryd.prog .lss 3 (env 9) x25_97) H98) fun x26_99 H100 =>
 S.i x26_99
 (S.b (up (idxS (env 0) (env 9)) H100) fun x29_101 H102 =>
  S.b (up (idxS (env 7) (env 8)) H102) fun x32_103 H104 =>
  S.b (up (binB Tryd.prog .neq 5 x29_101 x32_103) H104) fun x33_105 H106 =>
  S.i x33_105
  (S.b (up (binB Tryd.prog .add 3 (env 9) (.int .i64 1)) H106) fun x36_107 H108 =>
   S.b (up (slcStr (env 0) (some x36_107) none) H108) fun x37_109 H110 =>
   S.b (up (idxS (env 7) (env 8)) H110) fun x40_111 H112 =>
   S.b (C 57 [x37_109, x40_111] H112) fun x41_113 H114 =>
   S.c true (S.b (up (binB Tryd.prog .lss 3 x41_113 (.int .i64 0)) H114) fun x43_115 H116 =>
    S.i x43_115
    (some ((.int .i64 (-1)), H116))
    (S.b (up (binB Tryd.prog .add 3 x41_113 (.int .i64 1)) H116) fun x46_117 H118 =>
     S.b (up (binB Tryd.prog .add 3 (env 9) x46_117) H118) fun x47_119 H120 =>
     P2 (putE 187 (putE 187 (putE 187 (putE 187 (putE 187 (putE 187 (putE 187 (putE 187 (putE 187 (putE 187 (putE 187 (putE 187 (putE 187 (putE 187 (putE 187 (putE 187 (putE 187 (putE 187 (putE 187 (putE 187 (putE 187 (putE 187 (putE 187 (putE 187 (putE 187 (putE 187 (putE 187 (putE 187 env (some 23) (env 9)) (some 24) (env 0)) (some 25) x25_97) (some 26) x26_99) (some 27) (env 0)) (some 28) (env 9)) (some 29) x29_101) (some 30) (env 7)) (some 31) (env 8)) (some 32) x32_103) (some 33) x33_105) (some 34) (env 0)) (some 35) (env 9)) (some 36) x36_107) (some 37) x37_109) (some 38) (env 7)) (some 39) (env 8)) (some 40) x40_111) (some 41) x41_113) (some 11) x41_113) (some 42) x41_113) (some 43) x43_115) (some 44) (env 9)) (some 45) x41_113) (some 46) x46_117) (some 47) x47_119) (some 9) x47_119) (some 12) (.int .i64 1)) H120)))
  (P2 (putE 187 (putE 187 (putE 187 (putE 187 (putE 187 (putE 187 (putE 187 (putE 187 (putE 187 (putE 187 (putE 187 (putE 187 env (some 23) (env 9)) (some 24) (env 0)) (some 25) x25_97) (some 26) x26_99) (some 27) (env 0)) (some 28) (env 9)) (some 29) x29_101) (some 30) (env 7)) (some 31) (env 8)) (some 32) x32_103) (some 33) x33_105) (some 12) (.int .i64 1)) H106))
 (some ((.int .i64 (-1)), H100))

theorem f62_L1_eq (S : Seam (Value × Heap)) (C : CallF) (n : Nat) : ∀ (m : Nat) (env : Env) (H : Heap), aloopK (acodeK S Tryd.prog C n 187 (cAt f62_c [1, 0, 1, 1, 1, 1, 1, 1, 0, 1, 1, 1, 1, 0, 0, 0])) m env H (kAt S Tryd.prog C n 187 f62_c [1, 0, 1, 1, 1, 1, 1, 1, 0, 1, 1, 1, 1, 0, 0] (fin Tryd.prog Tryd.f62)) = f62_L1 S C n m (env 0) (env 7) (env 8) (env 9) H := by
  intro m env H
  refine aloopK_eq (L := fun m env H => f62_L1 S C n m (env 0) (env 7) (env 8) (env 9) H) (fun env H => rfl) (fun m env H => ?_) m env H
  have h1 : acodeK S Tryd.prog C n 187 (cAt f62_c [1, 0, 1, 1, 1, 1, 1, 1, 0, 1, 1, 1, 1, 0, 0, 0]) env H (onNormal (fun env' H' => f62_L1 S C n m (env' 0) (env' 7) (env' 8) (env' 9) H') (kAt S Tryd.prog C n 187 f62_c [1, 0, 1, 1, 1, 1, 1, 1, 0, 1, 1, 1, 1, 0, 0] (fin Tryd.prog Tryd.f62))) = f62_L1G S C n (f62_L1 S C n m) (fun env H => aloopK (acodeK S Tryd.prog C n 187 (cAt f62_c [1, 0, 1, 1, 1, 1, 1, 1, 0, 1, 1, 1, 1, 0, 0, 0, 1, 0, 0, 1, 0, 1, 0, 0])) n env H (kAt S Tryd.prog C n 187 (cAt f62_c [1, 0, 1, 1, 1, 1, 1, 1, 0, 1, 1, 1, 1, 0, 0, 0]) [1, 0, 0, 1, 0, 1, 0] (onNormal (fun env' H' => (f62_L1 S C n m) (env' 0) (env' 7) (env' 8) (env' 9) H') (kAt S Tryd.prog C n 187 f62_c [1, 0, 1, 1, 1, 1, 1, 1, 0, 1, 1, 1, 1, 0, 0] (fin Tryd.prog Tryd.f62))))) env H := by kernel_rfl
  have e0 : (fun env H => aloopK (acodeK S Tryd.prog C n 187 (cAt f62_c [1, 0, 1, 1, 1, 1, 1, 1, 0, 1, 1, 1, 1, 0, 0, 0, 1, 0, 0, 1, 0, 1, 0, 0])) n env H (kAt S Tryd.prog C n 187 (cAt f62_c [1, 0, 1, 1, 1, 1, 1, 1, 0, 1, 1, 1, 1, 0, 0, 0]) [1, 0, 0, 1, 0, 1, 0] (onNormal (fun env' H' => (f62_L1 S C n m) (env' 0) (env' 7) (env' 8) (env' 9) H') (kAt S Tryd.prog C n 187 f62_c [1, 0, 1, 1, 1, 1, 1, 1, 0, 1, 1, 1, 1, 0, 0] (fin Tryd.prog Tryd.f62))))) = (fun env H => f62_L2 S C n (f62_L1 S C n m) n (env 0) (env 7) (env 8) (env 9) (env 12) H) := by funext env H; exact f62_L2_eq S C n (f62_L1 S C n m) n env H
  rw [e0] at h1
  exact h1.trans (by kernel_rfl)


noncomputable def f62 (S : Seam (Value × Heap)) (C : CallF) (n : Nat) (x0 : Value) (x1 : Value) (H : Heap) : Option (Value × Heap) :=
 S.b (up (binB Tryd.prog .leq 21 (.int .i32 0) x1) H) fun x162_1 H2 =>
 S.b (gd (wd x162_1 true) (some (x1, H2)) H2) fun x164_3 H4 =>
 S.b (gd (wd x162_1 true) (up (binB Tryd.prog .lss 21 x164_3 (.int .i32 128)) H4) H4) fun x165_5 H6 =>
 S.b (pickV x162_1 x165_5 (.bool false) H6) fun x166_7 H8 =>
 S.i x166_7
 (S.b (cvI .u8 x1 H8) fun x169_9 H10 =>
  S.b (C 57 [x0, x169_9] H10) fun x170_11 H12 =>
  some (x170_11, H12))
 (S.b (up (binB Tryd.prog .eql 21 x1 (.int .i32 65533)) H8) fun x173_13 H14 =>
  S.i x173_13
  (S.b (rngS x0 H14) fun x175_15 H16 =>
   f62_L0 S C n n x175_15 H16)
  (S.b (C 78 [x1] H14) fun x185_29 H30 =>
   S.b (up (unB .not x185_29) H30) fun x186_31 H32 =>
   S.i x186_31
   (some ((.int .i64 (-1)), H32))
   (S.b (cvR x1 H32) fun x18_33 H34 =>
    S.b (up (lenStr x18_33) H34) fun x20_35 H36 =>
    S.b (up (binB Tryd.prog .sub 3 x20_35 (.int .i64 1)) H36) fun x21_37 H38 =>
    f62_L1 S C n n x0 x18_33 x21_37 x21_37 H38)))

noncomputable def f62G (S : Seam (Value × Heap)) (C : CallF) (n : Nat) (P0 : Env → Heap → Option (Value × Heap)) (P1 : Env → Heap → Option (Value × Heap)) (x0 : Value) (x1 : Value) (H : Heap) : Option (Value × Heap) :=
 S.b (up (binB Tryd.prog .leq 21 (.int .i32 0) x1) H) fun x162_121 H122 =>
 S.b (gd (wd x162_121 true) (some (x1, H122)) H122) fun x164_123 H124 =>
 S.b (gd (wd x162_121 true) (up (binB Tryd.prog .lss 21 x164_123 (.int .i32 128)) H124) H124) fun x165_125 H126 =>
 S.b (pickV x162_121 x165_125 (.bool false) H126) fun x166_127 H128 =>
 S.i x166_127
 (S.b (cvI .u8 x1 H128) fun x169_129 H130 =>
  S.b (C 57 [x0, x169_129] H130) fun x170_131 H132 =>
  some (x170_131, H132))
 (S.b (up (binB Tryd.prog .eql 21 x1 (.int .i32 65533)) H128) fun x173_133 H134 =>
  S.i x173_133
  (S.b (rngS x0 H134) fun x175_135 H136 =>
   P0 (putE 187 (putE 187 (putE 187 (putE 187 (putE 187 (putE 187 (putE 187 (putE 187 (putE 187 (putE 187 (putE 187 (putE 187 (putE 187 (env0 [x0, x1]) (some 4) (.int .i64 0)) (some 161) x1) (some 162) x162_121) (some 163) x162_121) (some 164) x164_123) (some 165) x165_125) (some 166) x166_127) (some 160) x166_127) (some 172) x1) (some 173) x173_133) (some 171) x173_133) (some 174) x0) (some 175) x175_135) H136)
  (S.b (C 78 [x1] H134) fun x185_137 H138 =>
   S.b (up (unB .not x185_137) H138) fun x186_139 H140 =>
   S.i x186_139
   (some ((.int .i64 (-1)), H140))
   (S.b (cvR x1 H140) fun x18_141 H142 =>
    S.b (up (lenStr x18_141) H142) fun x20_143 H144 =>
    S.b (up (binB Tryd.prog .sub 3 x20_143 (.int .i64 1)) H144) fun x21_145 H146 =>
    P1 (putE 187 (putE 187 (putE 187 (putE 187 (putE 187 (putE 187 (putE 187 (putE 187 (putE 187 (putE 187 (putE 187 (putE 187 (putE 187 (putE 187 (putE 187 (putE 187 (putE 187 (putE 187 (putE 187 (putE 187 (putE 187 (putE 187 (putE 187 (putE 187 (putE 187 (env0 [x0, x1]) (some 4) (.int .i64 0)) (some 161) x1) (some 162) x162_121) (some 163) x162_121) (some 164) x164_123) (some 165) x165_125) (some 166) x166_127) (some 160) x166_127) (some 172) x1) (some 173) x173_133) (some 171) x173_133) (some 184) x1) (some 185) x185_137) (some 186) x186_139) (some 183) x186_139) (some 17) x1) (some 18) x18_141) (some 7) x18_141) (some 19) x18_141) (some 20) x20_143) (some 21) x21_145) (some 8) x21_145) (some 22) x21_145) (some 9) x21_145) (some 10) (.int .i64 0)) H146)))

theorem f62_main (S : Seam (Value × Heap)) (C : CallF) (n : Nat) (x0 : Value) (x1 : Value) (H : Heap) : acodeK S Tryd.prog C n 187 f62_c (env0 [x0, x1]) H (fin Tryd.prog Tryd.f62) = f62 S C n x0 x1 H := by
  have h1 : acodeK S Tryd.prog C n 187 f62_c (env0 [x0, x1]) H (fin Tryd.prog Tryd.f62) = f62G S C n (fun env H => aloopK (acodeK S Tryd.prog C n 187 (cAt f62_c [1, 0, 1, 1, 1, 0, 0, 1, 0, 0])) n env H (kAt S Tryd.prog C n 187 f62_c [1, 0, 1, 1, 1, 0, 0, 1, 0] (fin Tryd.prog Tryd.f62))) (fun env H => aloopK (acodeK S Tryd.prog C n 187 (cAt f62_c [1, 0, 1, 1, 1, 1, 1, 1, 0, 1, 1, 1, 1, 0, 0, 0])) n env H (kAt S Tryd.prog C n 187 f62_c [1, 0, 1, 1, 1, 1, 1, 1, 0, 1, 1, 1, 1, 0, 0] (fin Tryd.prog Tryd.f62))) x0 x1 H := by kernel_rfl
  have e0 : (fun env H => aloopK (acodeK S Tryd.prog C n 187 (cAt f62_c [1, 0, 1, 1, 1, 0, 0, 1, 0, 0])) n env H (kAt S Tryd.prog C n 187 f62_c [1, 0, 1, 1, 1, 0, 0, 1, 0] (fin Tryd.prog Tryd.f62))) = (fun env H => f62_L0 S C n n (env 175) H) := by funext env H; exact f62_L0_eq S C n n env H
  have e1 : (fun env H => aloopK (acodeK S Tryd.prog C n 187 (cAt f62_c [1, 0, 1, 1, 1, 1, 1, 1, 0, 1, 1, 1, 1, 0, 0, 0])) n env H (kAt S Tryd.prog C n 187 f62_c [1, 0, 1, 1, 1, 1, 1, 1, 0, 1, 1, 1, 1, 0, 0] (fin Tryd.prog Tryd.f62))) = (fun env H => f62_L1 S C n n (env 0) (env 7) (env 8) (env 9) H) := by funext env H; exact f62_L1_eq S C n n env H
  rw [e0, e1] at h1
  exact h1.trans (by kernel_rfl)


theorem f62_eq {E : Ext} (hE : E 62 = none) (n : Nat) (x0 : Value) (x1 : Value) (H : Heap) : acall Tryd.prog true E (n + 1) 62 [x0, x1] H = f62 real (acall Tryd.prog true E n) n x0 x1 H :=
  (acall_eq (N := 187) Tryd.func62 (by kernel_rfl) (by kernel_rfl) hE (by kernel_rfl) (by kernel_rfl)).trans (f62_main real _ n x0 x1 H)

/-! (*bytes.asciiSet).contains -/
noncomputable def f68_c : Code := (Tryd.f68.body).getD .skip

noncomputable def f68 (S : Seam (Value × Heap)) (C : CallF) (n : Nat) (x0 : Value) (x1 : Value) (H : Heap) : Option (Value × Heap) :=
 S.b (nilC x0 H) fun x7_1 H2 =>
 S.b (up (iAddrA 256 1 x7_1 x1) H2) fun x8_3 H4 =>
 S.b (ldC x8_3 H4) fun x9_5 H6 =>
 some (x9_5, H6)

theorem f68_main (S : Seam (Value × Heap)) (C : CallF) (n : Nat) (x0 : Value) (x1 : Value) (H : Heap) : acodeK S Tryd.prog C n 10 f68_c (env0 [x0, x1]) H (fin Tryd.prog Tryd.f68) = f68 S C n x0 x1 H := by
  kernel_rfl


theorem f68_eq {E : Ext} (hE : E 68 = none) (n : Nat) (x0 : Value) (x1 : Value) (H : Heap) : acall Tryd.prog true E (n + 1) 68 [x0, x1] H = f68 real (acall Tryd.prog true E n) n x0 x1 H :=
  (acall_eq (N := 10) Tryd.func68 (by kernel_rfl) (by kernel_rfl) hE (by kernel_rfl) (by kernel_rfl)).trans (f68_main real _ n x0 x1 H)

/-! bytes.IndexByte -/
noncomputable def f71_c : Code := (Tryd.f71.body).getD .skip

noncomputable def f71 (S : Seam (Value × Heap)) (C : CallF) (n : Nat) (x0 : Value) (x1 : Value) (H : Heap) : Option (Value × Heap) :=
 S.b (C 83 [x0, x1] H) fun x7_1 H2 =>
 some (x7_1, H2)

theorem f71_main (S : Seam (Value × Heap)) (C : CallF) (n : Nat) (x0 : Value) (x1 : Value) (H : Heap) : acodeK S Tryd.prog C n 8 f71_c (env0 [x0, x1]) H (fin Tryd.prog Tryd.f71) = f71 S C n x0 x1 H := by
  kernel_rfl


theorem f71_eq {E : Ext} (hE : E 71 = none) (n : Nat) (x0 : Value) (x1 : Value) (H : Heap) : acall Tryd.prog true E (n + 1) 71 [x0, x1] H = f71 real (acall Tryd.prog true E n) n x0 x1 H :=
  (acall_eq (N := 8) Tryd.func71 (by kernel_rfl) (by kernel_rfl) hE (by kernel_rfl) (by kernel_rfl)).trans (f71_main real _ n x0 x1 H)

/-! internal/stringslite.IndexByte -/
noncomputable def f76_c : Code := (Tryd.f76.body).getD .skip

noncomputable def f76 (S : Seam (Value × Heap)) (C : CallF) (n : Nat) (x0 : Value) (x1 : Value) (H : Heap) : Option (Value × Heap) :=
 S.b (C 85 [x0, x1] H) fun x7_1 H2 =>
 some (x7_1, H2)

theorem f76_main (S : Seam (Value × Heap)) (C : CallF) (n : Nat) (x0 : Value) (x1 : Value) (H : Heap) : acodeK S Tryd.prog C n 8 f76_c (env0 [x0, x1]) H (fin Tryd.prog Tryd.f76) = f76 S C n x0 x1 H := by
  kernel_rfl


theorem f76_eq {E : Ext} (hE : E 76 = none) (n : Nat) (x0 : Value) (x1 : Value) (H : Heap) : acall Tryd.prog true E (n + 1) 76 [x0, x1] H = f76 real (acall Tryd.prog true E n) n x0 x1 H :=
  (acall_eq (N := 8) Tryd.func76 (by kernel_rfl) (by kernel_rfl) hE (by kernel_rfl) (by kernel_rfl)).trans (f76_main real _ n x0 x1 H)

/-! strings.indexFunc -/
noncomputable def f77_c : Code := (Tryd.f77.body).getD .skip

noncomputable def f77_L0 (S : Seam (Value × Heap)) (C : CallF) (n : Nat) : Nat → Value → Value → Value → Heap → Option (Value × Heap)
 | 0, _, _, _, _ => none
 | m + 1, x1_3, x2_4, x10_5, H6 =>
   S.b (nxtS x10_5 H6) fun x11_7 H8 =>
   S.b (extr 0 x11_7 H8) fun x12_9 H10 =>
   S.i x12_9
   (S.b (extr 1 x11_7 H10) fun x13_11 H12 =>
    S.b (extr 2 x11_7 H12) fun x14_13 H14 =>
    S.b (callV C x1_3 [x14_13] H14) fun x17_15 H16 =>
    S.b (up (binB Tryd.prog .eql 4 x17_15 x2_4) H16) fun x19_17 H18 =>
    S.i x19_17
    (some (x13_11, H18))
    (f77_L0 S C n m x1_3 x2_4 x10_5 H18))
   (some ((.int .i64 (-1)), H10))

theorem f77_L0_eq (S : Seam (Value × Heap)) (C : CallF) (n : Nat) : ∀ (m : Nat) (env : Env) (H : Heap), aloopK (acodeK S Tryd.prog C n 21 (cAt f77_c [1, 0, 1, 0, 0])) m env H (kAt S Tryd.prog C n 21 f77_c [1, 0, 1, 0] (fin Tryd.prog Tryd.f77)) = f77_L0 S C n m (env 1) (env 2) (env 10) H := by
  intro m env H
  refine aloopK_eq (L := fun m env H => f77_L0 S C n m (env 1) (env 2) (env 10) H) (fun env H => rfl) (fun m env H => ?_) m env H
  kernel_rfl


noncomputable def f77 (S : Seam (Value × Heap)) (C : CallF) (n : Nat) (x0 : Value) (x1 : Value) (x2 : Value) (H : Heap) : Option (Value × Heap) :=
 S.b (rngS x0 H) fun x10_1 H2 =>
 f77_L0 S C n n x1 x2 x10_1 H2

noncomputable def f77G (S : Seam (Value × Heap)) (C : CallF) (n : Nat) (P0 : Env → Heap → Option (Value × Heap)) (x0 : Value) (x1 : Value) (x2 : Value) (H : Heap) : Option (Value × Heap) :=
 S.b (rngS x0 H) fun x10_19 H20 =>
 P0 (putE 21 (putE 21 (putE 21 (env0 [x0, x1, x2]) (some 6) (.int .i64 0)) (some 9) x0) (some 10) x10_19) H20

theorem f77_main (S : Seam (Value × Heap)) (C : CallF) (n : Nat) (x0 : Value) (x1 : Value) (x2 : Value) (H : Heap) : acodeK S Tryd.prog C n 21 f77_c (env0 [x0, x1, x2]) H (fin Tryd.prog Tryd.f77) = f77 S C n x0 x1 x2 H := by
  have h1 : acodeK S Tryd.prog C n 21 f77_c (env0 [x0, x1, x2]) H (fin Tryd.prog Tryd.f77) = f77G S C n (fun env H => aloopK (acodeK S Tryd.prog C n 21 (cAt f77_c [1, 0, 1, 0, 0])) n env H (kAt S Tryd.prog C n 21 f77_c [1, 0, 1, 0] (fin Tryd.prog Tryd.f77))) x0 x1 x2 H := by kernel_rfl
  have e0 : (fun env H => aloopK (acodeK S Tryd.prog C n 21 (cAt f77_c [1, 0, 1, 0, 0])) n env H (kAt S Tryd.prog C n 21 f77_c [1, 0, 1, 0] (fin Tryd.prog Tryd.f77))) = (fun env H => f77_L0 S C n n (env 1) (env 2) (env 10) H) := by funext env H; exact f77_L0_eq S C n n env H
  rw [e0] at h1
  exact h1.trans (by kernel_rfl)


theorem f77_eq {E : Ext} (hE : E 77 = none) (n : Nat) (x0 : Value) (x1 : Value) (x2 : Value) (H : Heap) : acall Tryd.prog true E (n + 1) 77 [x0, x1, x2] H = f77 real (acall Tryd.prog true E n) n x0 x1 x2 H :=
  (acall_eq (N := 21) Tryd.func77 (by kernel_rfl) (by kernel_rfl) hE (by kernel_rfl) (by kernel_rfl)).trans (f77_main real _ n x0 x1 x2 H)

/-! unicode/utf8.ValidRune -/
noncomputable def f78_c : Code := (Tryd.f78.body).getD .skip

noncomputable def f78 (S : Seam (Value × Heap)) (C : CallF) (n : Nat) (x0 : Value) (H : Heap) : Option (Value × Heap) :=
 S.b (up (binB Tryd.prog .leq 21 (.int .i32 0) x0) H) fun x5_1 H2 =>
 S.b (gd (wd x5_1 true) (some (x0, H2)) H2) fun x7_3 H4 =>
 S.b (gd (wd x5_1 true) (up (binB Tryd.prog .lss 21 x7_3 (.int .i32 55296)) H4) H4) fun x8_5 H6 =>
 S.b (pickV x5_1 x8_5 (.bool false) H6) fun x9_7 H8 =>
 S.i x9_7
 (some ((.bool true), H8))
 (S.b (up (binB Tryd.prog .lss 21 (.int .i32 57343) x0) H8) fun x12_9 H10 =>
  S.b (gd (wd x12_9 true) (some (x0, H10)) H10) fun x14_11 H12 =>
  S.b (gd (wd x12_9 true) (up (binB Tryd.prog .leq 21 x14_11 (.int .i32 1114111)) H12) H12) fun x15_13 H14 =>
  S.b (pickV x12_9 x15_13 (.bool false) H14) fun x16_15 H16 =>
  S.i x16_15
  (some ((.bool true), H16))
  (some ((.bool false), H16)))

theorem f78_main (S : Seam (Value × Heap)) (C : CallF) (n : Nat) (x0 : Value) (H : Heap) : acodeK S Tryd.prog C n 17 f78_c (env0 [x0]) H (fin Tryd.prog Tryd.f78) = f78 S C n x0 H := by
  kernel_rfl


theorem f78_eq {E : Ext} (hE : E 78 = none) (n : Nat) (x0 : Value) (H : Heap) : acall Tryd.prog true E (n + 1) 78 [x0] H = f78 real (acall Tryd.prog true E n) n x0 H :=
  (acall_eq (N := 17) Tryd.func78 (by kernel_rfl) (by kernel_rfl) hE (by kernel_rfl) (by kernel_rfl)).trans (f78_main real _ n x0 H)

end Go.Eng
