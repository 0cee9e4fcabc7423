/- The functions, printed. -/
import Derived.Test.YtmjeefecjgfdjaaDoorProg
import Derived.Test.YtmjeefecjgfdjaaDoorEngT
import Derived.KernelRfl
set_option linter.unusedVariables false
set_option maxRecDepth 100000
namespace Go.Eng
open Go Go.Proofs

/-! incunable/incunablelaw29.TalkKnown -/
noncomputable def f9_c : Code := (Tryd.f9.body).getD .skip

noncomputable def f9_L2 (S : Seam (Value × Heap)) (C : CallF) (n : Nat) (R0 : Value→Value→Value→Heap→Option (Value × Heap)) (R1 : Value→Value→Value→Value→Heap→Option (Value × Heap)) : Nat → Value → Value → Value → Value → Value → Value → Value → Heap → Option (Value × Heap)
 | 0, _, _, _, _, _, _, _, _ => none
 | m + 1, x1_28, x2_29, x3_30, x4_31, x26_32, x27_33, x28_34, H35 =>
   S.b (up (binB Tryd.prog .lss 3 x28_34 x27_33) H35) fun x29_36 H37 =>
   S.i x29_36
   (S.b (up (iAddrS 1 x26_32 x28_34) H37) fun x30_38 H39 =>
    S.b (ldC x30_38 H39) fun x31_40 H41 =>
    S.b (up (iAddrS 1 x2_29 x4_31) H41) fun x35_42 H43 =>
    S.c true (S.b (ldC x35_42 H43) fun x36_44 H45 =>
    S.b (up (slcS 1 x1_28 none (some x31_40) none) H45) fun x39_46 H47 =>
    S.b (bld [(.int .i64 0), (.string ⟨#[]⟩), (.slice none 0 0)] [(0, 1, x3_30), (1, 1, x36_44), (2, 1, x39_46)] H47) fun x40_48 H49 =>
    S.b (newV [(.int .i64 0), (.string ⟨#[]⟩), (.slice none 0 0)] H49) fun x7_50 H51 =>
    S.b (stV 3 x7_50 x40_48 H51) fun _ H52 =>
    S.c true (S.b (up (binB Tryd.prog .mul 3 x3_30 (.int .i64 111)) H52) fun x43_53 H54 =>
     S.b (up (iAddrS 1 x2_29 x4_31) H54) fun x47_55 H56 =>
     S.c true (S.b (ldC x47_55 H56) fun x48_57 H58 =>
     S.b (up (slcS 1 x1_28 none (some x31_40) none) H58) fun x51_59 H60 =>
     S.b (bld [(.int .i64 0), (.int .i64 0), (.int .i64 0), (.string ⟨#[]⟩), (.slice none 0 0)] [(0, 1, x3_30), (1, 1, x43_53), (2, 1, x3_30), (3, 1, x48_57), (4, 1, x51_59)] H60) fun x52_61 H62 =>
     S.b (newV [(.int .i64 0), (.int .i64 0), (.int .i64 0), (.string ⟨#[]⟩), (.slice none 0 0)] H62) fun x8_63 H64 =>
     S.b (stV 5 x8_63 x52_61 H64) fun _ H65 =>
     S.c true (S.b (ldA 3 x7_50 H65) fun x53_66 H67 =>
      S.b (C 3 [x53_66] H67) fun x54_68 H69 =>
      S.b (up (unB .not x54_68) H69) fun x55_70 H71 =>
      S.b (gd (wd x55_70 false) (ldA 5 x8_63 H71) H71) fun x57_72 H73 =>
      S.b (gd (wd x55_70 false) (C 4 [x57_72] H73) H73) fun x58_74 H75 =>
      S.b (gd (wd x55_70 false) (up (unB .not x58_74) H75) H75) fun x59_76 H77 =>
      S.b (pickV x55_70 (.bool true) x59_76 H77) fun x60_78 H79 =>
      S.b (gd (wd x60_78 false) (ldA 3 x7_50 H79) H79) fun x62_80 H81 =>
      S.b (gd (wd x60_78 false) (ldA 5 x8_63 H81) H81) fun x63_82 H83 =>
      S.b (gd (wd x60_78 false) (C 6 [x62_80, x63_82] H83) H83) fun x64_84 H85 =>
      S.b (gd (wd x60_78 false) (up (unB .not x64_84) H85) H85) fun x65_86 H87 =>
      S.b (pickV x60_78 (.bool true) x65_86 H87) fun x66_88 H89 =>
      S.i x66_88
      (some ((.bool false), H89))
      (S.b (up (binB Tryd.prog .add 3 x28_34 (.int .i64 1)) H89) fun x67_90 H91 =>
       f9_L2 S C n R0 R1 m x1_28 x2_29 x3_30 x4_31 x26_32 x27_33 x67_90 H91))))))
   (S.b (up (binB Tryd.prog .add 3 x4_31 (.int .i64 1)) H37) fun x25_92 H93 =>
    R1 x1_28 x2_29 x3_30 x25_92 H93)

theorem f9_L2_eq (S : Seam (Value × Heap)) (C : CallF) (n : Nat) (R0 : Value→Value→Value→Heap→Option (Value × Heap)) (R1 : Value→Value→Value→Value→Heap→Option (Value × Heap)) : ∀ (m : Nat) (env : Env) (H : Heap), aloopK (acodeK S Tryd.prog C n 146 (cAt f9_c [1, 1, 1, 0, 1, 0, 0, 1, 0, 0, 1, 0, 0, 1, 0, 0, 1, 0, 0])) m env H (kAt S Tryd.prog C n 146 (cAt f9_c [1, 1, 1, 0, 1, 0, 0, 1, 0, 0, 1, 0, 0]) [1, 0, 0, 1, 0] (onNormal (fun env' H' => R1 (env' 1) (env' 2) (env' 3) (env' 4) H') (kAt S Tryd.prog C n 146 (cAt f9_c [1, 1, 1, 0, 1, 0, 0]) [1, 0, 0, 1, 0] (onNormal (fun env' H' => R0 (env' 1) (env' 2) (env' 3) H') (kAt S Tryd.prog C n 146 f9_c [1, 1, 1, 0, 1, 0] (fin Tryd.prog Tryd.f9)))))) = f9_L2 S C n R0 R1 m (env 1) (env 2) (env 3) (env 4) (env 26) (env 27) (env 28) H := by
  intro m env H
  refine aloopK_eq (L := fun m env H => f9_L2 S C n R0 R1 m (env 1) (env 2) (env 3) (env 4) (env 26) (env 27) (env 28) H) (fun env H => rfl) (fun m env H => ?_) m env H
  kernel_rfl


noncomputable def f9_L1 (S : Seam (Value × Heap)) (C : CallF) (n : Nat) (R0 : Value→Value→Value→Heap→Option (Value × Heap)) : Nat → Value → Value → Value → Value → Heap → Option (Value × Heap)
 | 0, _, _, _, _, _ => none
 | m + 1, x1_15, x2_16, x3_17, x4_18, H19 =>
   S.b (up (lenS x2_16) H19) fun x22_20 H21 =>
   S.b (up (binB Tryd.prog .lss 3 x4_18 x22_20) H21) fun x23_22 H23 =>
   S.i x23_22
   (S.b (bldS 1 4 [(.int .i64 0)] [(0, 1, (.int .i64 0)), (1, 1, (.int .i64 1)), (2, 1, (.int .i64 8192)), (3, 1, (.int .i64 8193))] H23) fun x26_24 H25 =>
    S.b (up (lenS x26_24) H25) fun x27_26 H27 =>
    f9_L2 S C n R0 (f9_L1 S C n R0 m) n x1_15 x2_16 x3_17 x4_18 x26_24 x27_26 (.int .i64 0) H27)
   (S.b (up (binB Tryd.prog .add 3 x3_17 (.int .i64 1)) H23) fun x19_94 H95 =>
    R0 x1_15 x2_16 x19_94 H95)

noncomputable def f9_L1G (S : Seam (Value × Heap)) (C : CallF) (n : Nat) (R0 : Value→Value→Value→Heap→Option (Value × Heap)) (R1 : Value→Value→Value→Value→Heap→Option (Value × Heap)) (P2 : Env → Heap → Option (Value × Heap)) (env : Env) (H : Heap) : Option (Value × Heap) :=
 S.b (up (lenS (env 2)) H) fun x22_96 H97 =>
 S.b (up (binB Tryd.prog .lss 3 (env 4) x22_96) H97) fun x23_98 H99 =>
 S.i x23_98
 (S.b (bldS 1 4 [(.int .i64 0)] [(0, 1, (.int .i64 0)), (1, 1, (.int .i64 1)), (2, 1, (.int .i64 8192)), (3, 1, (.int .i64 8193))] H99) fun x26_100 H101 =>
  S.b (up (lenS x26_100) H101) fun x27_102 H103 =>
  P2 (putE 146 (putE 146 (putE 146 (putE 146 (putE 146 (putE 146 (putE 146 env (some 20) (env 4)) (some 21) (env 2)) (some 22) x22_96) (some 23) x23_98) (some 26) x26_100) (some 27) x27_102) (some 28) (.int .i64 0)) H103)
 (S.b (up (binB Tryd.prog .add 3 (env 3) (.int .i64 1)) H99) fun x19_104 H105 =>
  R0 (env 1) (env 2) x19_104 H105)

theorem f9_L1_eq (S : Seam (Value × Heap)) (C : CallF) (n : Nat) (R0 : Value→Value→Value→Heap→Option (Value × Heap)) : ∀ (m : Nat) (env : Env) (H : Heap), aloopK (acodeK S Tryd.prog C n 146 (cAt f9_c [1, 1, 1, 0, 1, 0, 0, 1, 0, 0, 1, 0, 0])) m env H (kAt S Tryd.prog C n 146 (cAt f9_c [1, 1, 1, 0, 1, 0, 0]) [1, 0, 0, 1, 0] (onNormal (fun env' H' => R0 (env' 1) (env' 2) (env' 3) H') (kAt S Tryd.prog C n 146 f9_c [1, 1, 1, 0, 1, 0] (fin Tryd.prog Tryd.f9)))) = f9_L1 S C n R0 m (env 1) (env 2) (env 3) (env 4) H := by
  intro m env H
  refine aloopK_eq (L := fun m env H => f9_L1 S C n R0 m (env 1) (env 2) (env 3) (env 4) H) (fun env H => rfl) (fun m env H => ?_) m env H
  have h1 : acodeK S Tryd.prog C n 146 (cAt f9_c [1, 1, 1, 0, 1, 0, 0, 1, 0, 0, 1, 0, 0]) env H (onNormal (fun env' H' => f9_L1 S C n R0 m (env' 1) (env' 2) (env' 3) (env' 4) H') (kAt S Tryd.prog C n 146 (cAt f9_c [1, 1, 1, 0, 1, 0, 0]) [1, 0, 0, 1, 0] (onNormal (fun env' H' => R0 (env' 1) (env' 2) (env' 3) H') (kAt S Tryd.prog C n 146 f9_c [1, 1, 1, 0, 1, 0] (fin Tryd.prog Tryd.f9))))) = f9_L1G S C n R0 (f9_L1 S C n R0 m) (fun env H => aloopK (acodeK S Tryd.prog C n 146 (cAt f9_c [1, 1, 1, 0, 1, 0, 0, 1, 0, 0, 1, 0, 0, 1, 0, 0, 1, 0, 0])) n env H (kAt S Tryd.prog C n 146 (cAt f9_c [1, 1, 1, 0, 1, 0, 0, 1, 0, 0, 1, 0, 0]) [1, 0, 0, 1, 0] (onNormal (fun env' H' => (f9_L1 S C n R0 m) (env' 1) (env' 2) (env' 3) (env' 4) H') (kAt S Tryd.prog C n 146 (cAt f9_c [1, 1, 1, 0, 1, 0, 0]) [1, 0, 0, 1, 0] (onNormal (fun env' H' => R0 (env' 1) (env' 2) (env' 3) H') (kAt S Tryd.prog C n 146 f9_c [1, 1, 1, 0, 1, 0] (fin Tryd.prog Tryd.f9))))))) env H := by kernel_rfl
  have e0 : (fun env H => aloopK (acodeK S Tryd.prog C n 146 (cAt f9_c [1, 1, 1, 0, 1, 0, 0, 1, 0, 0, 1, 0, 0, 1, 0, 0, 1, 0, 0])) n env H (kAt S Tryd.prog C n 146 (cAt f9_c [1, 1, 1, 0, 1, 0, 0, 1, 0, 0, 1, 0, 0]) [1, 0, 0, 1, 0] (onNormal (fun env' H' => (f9_L1 S C n R0 m) (env' 1) (env' 2) (env' 3) (env' 4) H') (kAt S Tryd.prog C n 146 (cAt f9_c [1, 1, 1, 0, 1, 0, 0]) [1, 0, 0, 1, 0] (onNormal (fun env' H' => R0 (env' 1) (env' 2) (env' 3) H') (kAt S Tryd.prog C n 146 f9_c [1, 1, 1, 0, 1, 0] (fin Tryd.prog Tryd.f9))))))) = (fun env H => f9_L2 S C n R0 (f9_L1 S C n R0 m) n (env 1) (env 2) (env 3) (env 4) (env 26) (env 27) (env 28) H) := by funext env H; exact f9_L2_eq S C n R0 (f9_L1 S C n R0 m) n env H
  rw [e0] at h1
  exact h1.trans (by kernel_rfl)


noncomputable def f9_L4 (S : Seam (Value × Heap)) (C : CallF) (n : Nat) : Nat → Value → Heap → Option (Value × Heap)
 | 0, _, _ => none
 | m + 1, x11_163, H164 =>
   S.b (up (binB Tryd.prog .lss 3 x11_163 (.int .i64 256)) H164) fun x104_165 H166 =>
   S.i x104_165
   (S.b (cvI .u8 x11_163 H166) fun x108_167 H168 =>
    S.b (bldS 1 3 [(.int .u8 0)] [(0, 1, x108_167), (1, 1, (.int .u8 0)), (2, 1, (.int .u8 0))] H168) fun x109_169 H170 =>
    S.b (C 5 [x109_169] H170) fun x110_171 H172 =>
    S.b (up (unB .not x110_171) H172) fun x111_173 H174 =>
    S.b (gd (wd x111_173 false) (some (x11_163, H174)) H174) fun x113_175 H176 =>
    S.b (gd (wd x111_173 false) (cvI .u8 x113_175 H176) H176) fun x114_177 H178 =>
    S.b (gd (wd x111_173 false) (bldS 1 4 [(.int .u8 0)] [(0, 1, x114_177), (1, 1, (.int .u8 1)), (2, 1, (.int .u8 97)), (3, 1, (.int .u8 0))] H178) H178) fun x115_179 H180 =>
    S.b (gd (wd x111_173 false) (C 5 [x115_179] H180) H180) fun x116_181 H182 =>
    S.b (gd (wd x111_173 false) (up (unB .not x116_181) H182) H182) fun x117_183 H184 =>
    S.b (pickV x111_173 (.bool true) x117_183 H184) fun x118_185 H186 =>
    S.b (gd (wd x118_185 false) (some (x11_163, H186)) H186) fun x120_187 H188 =>
    S.b (gd (wd x118_185 false) (cvI .u8 x120_187 H188) H188) fun x121_189 H190 =>
    S.b (gd (wd x118_185 false) (bldS 1 5 [(.int .u8 0)] [(0, 1, x121_189), (1, 1, (.int .u8 1)), (2, 1, (.int .u8 0)), (3, 1, (.int .u8 0)), (4, 1, (.int .u8 0))] H190) H190) fun x122_191 H192 =>
    S.b (gd (wd x118_185 false) (C 5 [x122_191] H192) H192) fun x123_193 H194 =>
    S.b (gd (wd x118_185 false) (up (unB .not x123_193) H194) H194) fun x124_195 H196 =>
    S.b (pickV x118_185 (.bool true) x124_195 H196) fun x125_197 H198 =>
    S.b (gd (wd x125_197 false) (some (x11_163, H198)) H198) fun x127_199 H200 =>
    S.b (gd (wd x125_197 false) (cvI .u8 x127_199 H200) H200) fun x128_201 H202 =>
    S.b (gd (wd x125_197 false) (bldS 1 4 [(.int .u8 0)] [(0, 1, (.int .u8 1)), (1, 1, (.int .u8 1)), (2, 1, x128_201), (3, 1, (.int .u8 0))] H202) H202) fun x129_203 H204 =>
    S.b (gd (wd x125_197 false) (C 5 [x129_203] H204) H204) fun x130_205 H206 =>
    S.b (gd (wd x125_197 false) (up (unB .not x130_205) H206) H206) fun x131_207 H208 =>
    S.b (pickV x125_197 (.bool true) x131_207 H208) fun x132_209 H210 =>
    S.b (gd (wd x132_209 false) (some (x11_163, H210)) H210) fun x134_211 H212 =>
    S.b (gd (wd x132_209 false) (cvI .u8 x134_211 H212) H212) fun x135_213 H214 =>
    S.b (gd (wd x132_209 false) (bldS 1 5 [(.int .u8 0)] [(0, 1, (.int .u8 1)), (1, 1, (.int .u8 129)), (2, 1, x135_213), (3, 1, (.int .u8 97)), (4, 1, (.int .u8 0))] H214) H214) fun x136_215 H216 =>
    S.b (gd (wd x132_209 false) (C 5 [x136_215] H216) H216) fun x137_217 H218 =>
    S.b (gd (wd x132_209 false) (up (unB .not x137_217) H218) H218) fun x138_219 H220 =>
    S.b (pickV x132_209 (.bool true) x138_219 H220) fun x139_221 H222 =>
    S.i x139_221
    (some ((.bool false), H222))
    (S.b (up (binB Tryd.prog .add 3 x11_163 (.int .i64 1)) H222) fun x106_223 H224 =>
     f9_L4 S C n m x106_223 H224))
   (S.b (gd (wd (.bool true) true) (C 17 [] H166) H166) fun x141_225 H226 =>
    S.b (pickV (.bool true) x141_225 (.bool false) H226) fun x142_227 H228 =>
    S.b (gd (wd x142_227 true) (C 5 [(.slice none 0 0)] H228) H228) fun x144_229 H230 =>
    S.b (pickV x142_227 x144_229 (.bool false) H230) fun x145_231 H232 =>
    some (x145_231, H232))

theorem f9_L4_eq (S : Seam (Value × Heap)) (C : CallF) (n : Nat) : ∀ (m : Nat) (env : Env) (H : Heap), aloopK (acodeK S Tryd.prog C n 146 (cAt f9_c [1, 1, 1, 1, 1, 1, 0, 1, 0, 0])) m env H (kAt S Tryd.prog C n 146 f9_c [1, 1, 1, 1, 1, 1, 0, 1, 0] (fin Tryd.prog Tryd.f9)) = f9_L4 S C n m (env 11) H := by
  intro m env H
  refine aloopK_eq (L := fun m env H => f9_L4 S C n m (env 11) H) (fun env H => rfl) (fun m env H => ?_) m env H
  kernel_rfl


noncomputable def f9_L3 (S : Seam (Value × Heap)) (C : CallF) (n : Nat) : Nat → Value → Value → Heap → Option (Value × Heap)
 | 0, _, _, _ => none
 | m + 1, x9_130, x10_131, H132 =>
   S.b (up (lenS x9_130) H132) fun x84_133 H134 =>
   S.b (up (binB Tryd.prog .lss 3 x10_131 x84_133) H134) fun x85_135 H136 =>
   S.i x85_135
   (S.b (up (iAddrS 5 x9_130 x10_131) H136) fun x90_137 H138 =>
    S.b (ldA 5 x90_137 H138) fun x91_139 H140 =>
    S.b (C 4 [x91_139] H140) fun x92_141 H142 =>
    S.b (up (unB .not x92_141) H142) fun x93_143 H144 =>
    S.b (gd (wd x93_143 false) (bld [(.int .i64 0), (.string ⟨#[]⟩), (.slice none 0 0)] [] H144) H144) fun x95_145 H146 =>
    S.b (gd (wd x93_143 false) (some (x9_130, H146)) H146) fun x96_147 H148 =>
    S.b (gd (wd x93_143 false) (some (x10_131, H148)) H148) fun x97_149 H150 =>
    S.b (gd (wd x93_143 false) (up (iAddrS 5 x96_147 x97_149) H150) H150) fun x98_151 H152 =>
    S.b (gd (wd x93_143 false) (ldA 5 x98_151 H152) H152) fun x99_153 H154 =>
    S.b (gd (wd x93_143 false) (C 6 [x95_145, x99_153] H154) H154) fun x100_155 H156 =>
    S.b (gd (wd x93_143 false) (up (unB .not x100_155) H156) H156) fun x101_157 H158 =>
    S.b (pickV x93_143 (.bool true) x101_157 H158) fun x102_159 H160 =>
    S.i x102_159
    (some ((.bool false), H160))
    (S.b (up (binB Tryd.prog .add 3 x10_131 (.int .i64 1)) H160) fun x87_161 H162 =>
     f9_L3 S C n m x9_130 x87_161 H162))
   (f9_L4 S C n n (.int .i64 0) H136)

noncomputable def f9_L3G (S : Seam (Value × Heap)) (C : CallF) (n : Nat) (R3 : Value→Value→Heap→Option (Value × Heap)) (P4 : Env → Heap → Option (Value × Heap)) (env : Env) (H : Heap) : Option (Value × Heap) :=
 S.b (up (lenS (env 9)) H) fun x84_233 H234 =>
 S.b (up (binB Tryd.prog .lss 3 (env 10) x84_233) H234) fun x85_235 H236 =>
 S.i x85_235
 (S.b (up (iAddrS 5 (env 9) (env 10)) H236) fun x90_237 H238 =>
  S.b (ldA 5 x90_237 H238) fun x91_239 H240 =>
  S.b (C 4 [x91_239] H240) fun x92_241 H242 =>
  S.b (up (unB .not x92_241) H242) fun x93_243 H244 =>
  S.b (gd (wd x93_243 false) (bld [(.int .i64 0), (.string ⟨#[]⟩), (.slice none 0 0)] [] H244) H244) fun x95_245 H246 =>
  S.b (gd (wd x93_243 false) (some ((env 9), H246)) H246) fun x96_247 H248 =>
  S.b (gd (wd x93_243 false) (some ((env 10), H248)) H248) fun x97_249 H250 =>
  S.b (gd (wd x93_243 false) (up (iAddrS 5 x96_247 x97_249) H250) H250) fun x98_251 H252 =>
  S.b (gd (wd x93_243 false) (ldA 5 x98_251 H252) H252) fun x99_253 H254 =>
  S.b (gd (wd x93_243 false) (C 6 [x95_245, x99_253] H254) H254) fun x100_255 H256 =>
  S.b (gd (wd x93_243 false) (up (unB .not x100_255) H256) H256) fun x101_257 H258 =>
  S.b (pickV x93_243 (.bool true) x101_257 H258) fun x102_259 H260 =>
  S.i x102_259
  (some ((.bool false), H260))
  (S.b (up (binB Tryd.prog .add 3 (env 10) (.int .i64 1)) H260) fun x87_261 H262 =>
   R3 (env 9) x87_261 H262))
 (P4 (putE 146 (putE 146 (putE 146 (putE 146 (putE 146 env (some 82) (env 10)) (some 83) (env 9)) (some 84) x84_233) (some 85) x85_235) (some 11) (.int .i64 0)) H236)

theorem f9_L3_eq (S : Seam (Value × Heap)) (C : CallF) (n : Nat) : ∀ (m : Nat) (env : Env) (H : Heap), aloopK (acodeK S Tryd.prog C n 146 (cAt f9_c [1, 1, 1, 1, 1, 0, 1, 0, 0])) m env H (kAt S Tryd.prog C n 146 f9_c [1, 1, 1, 1, 1, 0, 1, 0] (fin Tryd.prog Tryd.f9)) = f9_L3 S C n m (env 9) (env 10) H := by
  intro m env H
  refine aloopK_eq (L := fun m env H => f9_L3 S C n m (env 9) (env 10) H) (fun env H => rfl) (fun m env H => ?_) m env H
  have h1 : acodeK S Tryd.prog C n 146 (cAt f9_c [1, 1, 1, 1, 1, 0, 1, 0, 0]) env H (onNormal (fun env' H' => f9_L3 S C n m (env' 9) (env' 10) H') (kAt S Tryd.prog C n 146 f9_c [1, 1, 1, 1, 1, 0, 1, 0] (fin Tryd.prog Tryd.f9))) = f9_L3G S C n (f9_L3 S C n m) (fun env H => aloopK (acodeK S Tryd.prog C n 146 (cAt f9_c [1, 1, 1, 1, 1, 1, 0, 1, 0, 0])) n env H (kAt S Tryd.prog C n 146 f9_c [1, 1, 1, 1, 1, 1, 0, 1, 0] (fin Tryd.prog Tryd.f9))) env H := by kernel_rfl
  have e0 : (fun env H => aloopK (acodeK S Tryd.prog C n 146 (cAt f9_c [1, 1, 1, 1, 1, 1, 0, 1, 0, 0])) n env H (kAt S Tryd.prog C n 146 f9_c [1, 1, 1, 1, 1, 1, 0, 1, 0] (fin Tryd.prog Tryd.f9))) = (fun env H => f9_L4 S C n n (env 11) H) := by funext env H; exact f9_L4_eq S C n n env H
  rw [e0] at h1
  exact h1.trans (by kernel_rfl)


noncomputable def f9_L0 (S : Seam (Value × Heap)) (C : CallF) (n : Nat) : Nat → Value → Value → Value → Heap → Option (Value × Heap)
 | 0, _, _, _, _ => none
 | m + 1, x1_9, x2_10, x3_11, H12 =>
   S.b (up (binB Tryd.prog .lss 3 x3_11 (.int .i64 10)) H12) fun x17_13 H14 =>
   S.i x17_13
   (f9_L1 S C n (f9_L0 S C n m) n x1_9 x2_10 x3_11 (.int .i64 0) H14)
   (S.b (bld [(.int .i64 0), (.int .i64 0), (.int .i64 0), (.string ⟨#[]⟩), (.slice none 0 0)] [(1, 1, (.int .i64 999))] H14) fun x68_106 H107 =>
    S.b (bld [(.int .i64 0), (.int .i64 0), (.int .i64 0), (.string ⟨#[]⟩), (.slice none 0 0)] [(1, 1, (.int .i64 1000))] H107) fun x69_108 H109 =>
    S.b (bld [(.int .i64 0), (.int .i64 0), (.int .i64 0), (.string ⟨#[]⟩), (.slice none 0 0)] [(1, 1, (.int .i64 (-1)))] H109) fun x70_110 H111 =>
    S.b (bld [(.int .i64 0), (.int .i64 0), (.int .i64 0), (.string ⟨#[]⟩), (.slice none 0 0)] [(2, 1, (.int .i64 9007199254740991))] H111) fun x71_112 H113 =>
    S.b (bld [(.int .i64 0), (.int .i64 0), (.int .i64 0), (.string ⟨#[]⟩), (.slice none 0 0)] [(2, 1, (.int .i64 9007199254740992))] H113) fun x72_114 H115 =>
    S.b (bld [(.int .i64 0), (.int .i64 0), (.int .i64 0), (.string ⟨#[]⟩), (.slice none 0 0)] [(2, 1, (.int .i64 (-1)))] H115) fun x73_116 H117 =>
    S.b (up (slcS 1 x1_9 none (some (.int .i64 262144)) none) H117) fun x75_118 H119 =>
    S.b (bld [(.int .i64 0), (.int .i64 0), (.int .i64 0), (.string ⟨#[]⟩), (.slice none 0 0)] [(4, 1, x75_118)] H119) fun x76_120 H121 =>
    S.b (bld [(.int .i64 0), (.int .i64 0), (.int .i64 0), (.string ⟨#[]⟩), (.slice none 0 0)] [(4, 1, x1_9)] H121) fun x78_122 H123 =>
    S.b (C 27 [(.string ⟨#[110]⟩), (.int .i64 33)] H123) fun x79_124 H125 =>
    S.c true (S.b (bld [(.int .i64 0), (.int .i64 0), (.int .i64 0), (.string ⟨#[]⟩), (.slice none 0 0)] [(3, 1, x79_124)] H125) fun x80_126 H127 =>
     S.b (bldS 5 9 [(.int .i64 0), (.int .i64 0), (.int .i64 0), (.string ⟨#[]⟩), (.slice none 0 0)] [(0, 5, x68_106), (5, 5, x69_108), (10, 5, x70_110), (15, 5, x71_112), (20, 5, x72_114), (25, 5, x73_116), (30, 5, x76_120), (35, 5, x78_122), (40, 5, x80_126)] H127) fun x81_128 H129 =>
     f9_L3 S C n n x81_128 (.int .i64 0) H129))

noncomputable def f9_L0G (S : Seam (Value × Heap)) (C : CallF) (n : Nat) (R0 : Value→Value→Value→Heap→Option (Value × Heap)) (P1 : Env → Heap → Option (Value × Heap)) (P3 : Env → Heap → Option (Value × Heap)) (env : Env) (H : Heap) : Option (Value × Heap) :=
 S.b (up (binB Tryd.prog .lss 3 (env 3) (.int .i64 10)) H) fun x17_263 H264 =>
 S.i x17_263
 (P1 (putE 146 (putE 146 (putE 146 env (some 16) (env 3)) (some 17) x17_263) (some 4) (.int .i64 0)) H264)
 (S.b (bld [(.int .i64 0), (.int .i64 0), (.int .i64 0), (.string ⟨#[]⟩), (.slice none 0 0)] [(1, 1, (.int .i64 999))] H264) fun x68_265 H266 =>
  S.b (bld [(.int .i64 0), (.int .i64 0), (.int .i64 0), (.string ⟨#[]⟩), (.slice none 0 0)] [(1, 1, (.int .i64 1000))] H266) fun x69_267 H268 =>
  S.b (bld [(.int .i64 0), (.int .i64 0), (.int .i64 0), (.string ⟨#[]⟩), (.slice none 0 0)] [(1, 1, (.int .i64 (-1)))] H268) fun x70_269 H270 =>
  S.b (bld [(.int .i64 0), (.int .i64 0), (.int .i64 0), (.string ⟨#[]⟩), (.slice none 0 0)] [(2, 1, (.int .i64 9007199254740991))] H270) fun x71_271 H272 =>
  S.b (bld [(.int .i64 0), (.int .i64 0), (.int .i64 0), (.string ⟨#[]⟩), (.slice none 0 0)] [(2, 1, (.int .i64 9007199254740992))] H272) fun x72_273 H274 =>
  S.b (bld [(.int .i64 0), (.int .i64 0), (.int .i64 0), (.string ⟨#[]⟩), (.slice none 0 0)] [(2, 1, (.int .i64 (-1)))] H274) fun x73_275 H276 =>
  S.b (up (slcS 1 (env 1) none (some (.int .i64 262144)) none) H276) fun x75_277 H278 =>
  S.b (bld [(.int .i64 0), (.int .i64 0), (.int .i64 0), (.string ⟨#[]⟩), (.slice none 0 0)] [(4, 1, x75_277)] H278) fun x76_279 H280 =>
  S.b (bld [(.int .i64 0), (.int .i64 0), (.int .i64 0), (.string ⟨#[]⟩), (.slice none 0 0)] [(4, 1, (env 1))] H280) fun x78_281 H282 =>
  S.b (C 27 [(.string ⟨#[110]⟩), (.int .i64 33)] H282) fun x79_283 H284 =>
  S.c true (S.b (bld [(.int .i64 0), (.int .i64 0), (.int .i64 0), (.string ⟨#[]⟩), (.slice none 0 0)] [(3, 1, x79_283)] H284) fun x80_285 H286 =>
   S.b (bldS 5 9 [(.int .i64 0), (.int .i64 0), (.int .i64 0), (.string ⟨#[]⟩), (.slice none 0 0)] [(0, 5, x68_265), (5, 5, x69_267), (10, 5, x70_269), (15, 5, x71_271), (20, 5, x72_273), (25, 5, x73_275), (30, 5, x76_279), (35, 5, x78_281), (40, 5, x80_285)] H286) fun x81_287 H288 =>
   P3 (putE 146 (putE 146 (putE 146 (putE 146 (putE 146 (putE 146 (putE 146 (putE 146 (putE 146 (putE 146 (putE 146 (putE 146 (putE 146 (putE 146 (putE 146 (putE 146 (putE 146 (putE 146 env (some 16) (env 3)) (some 17) x17_263) (some 68) x68_265) (some 69) x69_267) (some 70) x70_269) (some 71) x71_271) (some 72) x72_273) (some 73) x73_275) (some 74) (env 1)) (some 75) x75_277) (some 76) x76_279) (some 77) (env 1)) (some 78) x78_281) (some 79) x79_283) (some 80) x80_285) (some 81) x81_287) (some 9) x81_287) (some 10) (.int .i64 0)) H288))

theorem f9_L0_eq (S : Seam (Value × Heap)) (C : CallF) (n : Nat) : ∀ (m : Nat) (env : Env) (H : Heap), aloopK (acodeK S Tryd.prog C n 146 (cAt f9_c [1, 1, 1, 0, 1, 0, 0])) m env H (kAt S Tryd.prog C n 146 f9_c [1, 1, 1, 0, 1, 0] (fin Tryd.prog Tryd.f9)) = f9_L0 S C n m (env 1) (env 2) (env 3) H := by
  intro m env H
  refine aloopK_eq (L := fun m env H => f9_L0 S C n m (env 1) (env 2) (env 3) H) (fun env H => rfl) (fun m env H => ?_) m env H
  have h1 : acodeK S Tryd.prog C n 146 (cAt f9_c [1, 1, 1, 0, 1, 0, 0]) env H (onNormal (fun env' H' => f9_L0 S C n m (env' 1) (env' 2) (env' 3) H') (kAt S Tryd.prog C n 146 f9_c [1, 1, 1, 0, 1, 0] (fin Tryd.prog Tryd.f9))) = f9_L0G S C n (f9_L0 S C n m) (fun env H => aloopK (acodeK S Tryd.prog C n 146 (cAt f9_c [1, 1, 1, 0, 1, 0, 0, 1, 0, 0, 1, 0, 0])) n env H (kAt S Tryd.prog C n 146 (cAt f9_c [1, 1, 1, 0, 1, 0, 0]) [1, 0, 0, 1, 0] (onNormal (fun env' H' => (f9_L0 S C n m) (env' 1) (env' 2) (env' 3) H') (kAt S Tryd.prog C n 146 f9_c [1, 1, 1, 0, 1, 0] (fin Tryd.prog Tryd.f9))))) (fun env H => aloopK (acodeK S Tryd.prog C n 146 (cAt f9_c [1, 1, 1, 1, 1, 0, 1, 0, 0])) n env H (kAt S Tryd.prog C n 146 f9_c [1, 1, 1, 1, 1, 0, 1, 0] (fin Tryd.prog Tryd.f9))) env H := by kernel_rfl
  have e0 : (fun env H => aloopK (acodeK S Tryd.prog C n 146 (cAt f9_c [1, 1, 1, 0, 1, 0, 0, 1, 0, 0, 1, 0, 0])) n env H (kAt S Tryd.prog C n 146 (cAt f9_c [1, 1, 1, 0, 1, 0, 0]) [1, 0, 0, 1, 0] (onNormal (fun env' H' => (f9_L0 S C n m) (env' 1) (env' 2) (env' 3) H') (kAt S Tryd.prog C n 146 f9_c [1, 1, 1, 0, 1, 0] (fin Tryd.prog Tryd.f9))))) = (fun env H => f9_L1 S C n (f9_L0 S C n m) n (env 1) (env 2) (env 3) (env 4) H) := by funext env H; exact f9_L1_eq S C n (f9_L0 S C n m) n env H
  have e1 : (fun env H => aloopK (acodeK S Tryd.prog C n 146 (cAt f9_c [1, 1, 1, 1, 1, 0, 1, 0, 0])) n env H (kAt S Tryd.prog C n 146 f9_c [1, 1, 1, 1, 1, 0, 1, 0] (fin Tryd.prog Tryd.f9))) = (fun env H => f9_L3 S C n n (env 9) (env 10) H) := by funext env H; exact f9_L3_eq S C n n env H
  rw [e0, e1] at h1
  exact h1.trans (by kernel_rfl)


noncomputable def f9 (S : Seam (Value × Heap)) (C : CallF) (n : Nat) (H : Heap) : Option (Value × Heap) :=
 S.b (mkS 1 1 [(.int .u8 0)] (.int .i64 262145) (.int .i64 262145) H) fun x12_1 H2 =>
 S.b (C 27 [(.string ⟨#[112]⟩), (.int .i64 32)] H2) fun x13_3 H4 =>
 S.b (C 27 [(.string ⟨#[112]⟩), (.int .i64 33)] H4) fun x14_5 H6 =>
 S.b (bldS 1 8 [(.string ⟨#[]⟩)] [(0, 1, (.string ⟨#[]⟩)), (1, 1, (.string ⟨#[97]⟩)), (2, 1, (.string ⟨#[97, 47, 98, 46, 99, 45, 100, 95, 57]⟩)), (3, 1, (.string ⟨#[65]⟩)), (4, 1, x13_3), (5, 1, x14_5), (6, 1, (.string ⟨#[97, 32, 98]⟩)), (7, 1, (.string ⟨#[195, 164]⟩))] H6) fun x15_7 H8 =>
 f9_L0 S C n n x12_1 x15_7 (.int .i64 (-1)) H8

noncomputable def f9G (S : Seam (Value × Heap)) (C : CallF) (n : Nat) (P0 : Env → Heap → Option (Value × Heap)) (H : Heap) : Option (Value × Heap) :=
 S.b (mkS 1 1 [(.int .u8 0)] (.int .i64 262145) (.int .i64 262145) H) fun x12_289 H290 =>
 S.b (C 27 [(.string ⟨#[112]⟩), (.int .i64 32)] H290) fun x13_291 H292 =>
 S.b (C 27 [(.string ⟨#[112]⟩), (.int .i64 33)] H292) fun x14_293 H294 =>
 S.b (bldS 1 8 [(.string ⟨#[]⟩)] [(0, 1, (.string ⟨#[]⟩)), (1, 1, (.string ⟨#[97]⟩)), (2, 1, (.string ⟨#[97, 47, 98, 46, 99, 45, 100, 95, 57]⟩)), (3, 1, (.string ⟨#[65]⟩)), (4, 1, x13_291), (5, 1, x14_293), (6, 1, (.string ⟨#[97, 32, 98]⟩)), (7, 1, (.string ⟨#[195, 164]⟩))] H294) fun x15_295 H296 =>
 P0 (putE 146 (putE 146 (putE 146 (putE 146 (putE 146 (putE 146 (putE 146 (putE 146 (env0 []) (some 0) (.bool false)) (some 12) x12_289) (some 1) x12_289) (some 13) x13_291) (some 14) x14_293) (some 15) x15_295) (some 2) x15_295) (some 3) (.int .i64 (-1))) H296

theorem f9_main (S : Seam (Value × Heap)) (C : CallF) (n : Nat) (H : Heap) : acodeK S Tryd.prog C n 146 f9_c (env0 []) H (fin Tryd.prog Tryd.f9) = f9 S C n H := by
  have h1 : acodeK S Tryd.prog C n 146 f9_c (env0 []) H (fin Tryd.prog Tryd.f9) = f9G S C n (fun env H => aloopK (acodeK S Tryd.prog C n 146 (cAt f9_c [1, 1, 1, 0, 1, 0, 0])) n env H (kAt S Tryd.prog C n 146 f9_c [1, 1, 1, 0, 1, 0] (fin Tryd.prog Tryd.f9))) H := by kernel_rfl
  have e0 : (fun env H => aloopK (acodeK S Tryd.prog C n 146 (cAt f9_c [1, 1, 1, 0, 1, 0, 0])) n env H (kAt S Tryd.prog C n 146 f9_c [1, 1, 1, 0, 1, 0] (fin Tryd.prog Tryd.f9))) = (fun env H => f9_L0 S C n n (env 1) (env 2) (env 3) H) := by funext env H; exact f9_L0_eq S C n n env H
  rw [e0] at h1
  exact h1.trans (by kernel_rfl)


theorem f9_eq {gl : Bool} {E : Ext} (hE : E 9 = none) (n : Nat) (H : Heap) : acall Tryd.prog gl E (n + 1) 9 [] H = f9 real (acall Tryd.prog gl E n) n H :=
  (acall_eq (N := 146) Tryd.func9 (by kernel_rfl) (by kernel_rfl) hE (okgl f9_c (by kernel_rfl)) (by kernel_rfl)).trans (f9_main real _ n H)

end Go.Eng
