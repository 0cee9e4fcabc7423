/- The functions, printed. -/
import Derived.Test.YtiflkdemlhpibaaDoorProg
import Derived.Test.YtiflkdemlhpibaaDoorEnhT
import Derived.KernelRfl
set_option linter.unusedVariables false
set_option maxRecDepth 100000
namespace Go.Eng
open Go Go.Proofs

/-! incunable/incunablelaw16.ImportsBehind -/
noncomputable def f3_c : Code := (Tryd.f3.body).getD .skip

noncomputable def f3_L1 (S : Seam (Value × Heap)) (C : CallF) (n : Nat) (R0 : Value→Value→Value→Value→Heap→Option (Value × Heap)) : Nat → Value → Value → Value → Value → Value → Value → Heap → Option (Value × Heap)
 | 0, _, _, _, _, _, _, _ => none
 | m + 1, y144, y145, y146, y147, y148, y149, H150 =>
   S.b (up (iAddrS 2 y144 y148) H150) fun y151 H152 =>
   S.b (up (fAddr 1 y151) H152) fun y153 H154 =>
   S.b (ldC y153 H154) fun y155 H156 =>
   S.b (up (lenS y155) H156) fun y157 H158 =>
   S.b (up (binB Tryd.prog .lss 3 y149 y157) H158) fun y159 H160 =>
   S.i y159
   (S.b (up (iAddrS 2 y144 y148) H160) fun y161 H162 =>
    S.b (up (fAddr 1 y161) H162) fun y163 H164 =>
    S.b (ldC y163 H164) fun y165 H166 =>
    S.b (up (iAddrS 1 y165 y149) H166) fun y167 H168 =>
    S.b (ldC y167 H168) fun y169 H170 =>
    S.b (C 13 [y144, y169] H170) fun y171 H172 =>
    S.b (C 12 [y145, y171, y147] H172) fun y173 H174 =>
    S.b (up (unB .not y173) H174) fun y175 H176 =>
    S.i y175
    (some ((.bool false), H176))
    (S.b (up (binB Tryd.prog .add 3 y149 (.int .i64 1)) H176) fun y177 H178 =>
     f3_L1 S C n R0 m y144 y145 y146 y147 y148 y177 H178))
   (S.b (up (binB Tryd.prog .add 3 y147 (.int .i64 1)) H160) fun y179 H180 =>
    R0 y144 y145 y146 y179 H180)

theorem f3_L1_eq (S : Seam (Value × Heap)) (C : CallF) (n : Nat) (R0 : Value→Value→Value→Value→Heap→Option (Value × Heap)) : ∀ (m : Nat) (env : Env) (H : Heap), aloopK (acodeK S Tryd.prog C n 139 (cAt f3_c [1, 1, 1, 1, 1, 1, 1, 1, 0, 1, 0, 0, 1, 0, 0, 1, 1, 1, 0, 0])) m env H (kAt S Tryd.prog C n 139 (cAt f3_c [1, 1, 1, 1, 1, 1, 1, 1, 0, 1, 0, 0]) [1, 0, 0, 1, 1, 1, 0] (onNormal (fun env' H' => R0 (env' 5) (env' 7) (env' 10) (env' 12) H') (kAt S Tryd.prog C n 139 f3_c [1, 1, 1, 1, 1, 1, 1, 1, 0, 1, 0] (fin Tryd.prog Tryd.f3)))) = f3_L1 S C n R0 m (env 5) (env 7) (env 10) (env 12) (env 13) (env 14) H := by
  intro m env H
  refine aloopK_eq (L := fun m env H => f3_L1 S C n R0 m (env 5) (env 7) (env 10) (env 12) (env 13) (env 14) H) (fun env H => rfl) (fun m env H => ?_) m env H
  kernel_rfl


noncomputable def f3_L0 (S : Seam (Value × Heap)) (C : CallF) (n : Nat) : Nat → Value → Value → Value → Value → Heap → Option (Value × Heap)
 | 0, _, _, _, _, _ => none
 | m + 1, y95, y96, y97, y98, H99 =>
   S.b (up (lenS y96) H99) fun y100 H101 =>
   S.b (up (binB Tryd.prog .lss 3 y98 y100) H101) fun y102 H103 =>
   S.i y102
   (S.b (up (iAddrS 1 y96 y98) H103) fun y104 H105 =>
    S.b (ldC y104 H105) fun y106 H107 =>
    S.b (up (binB Tryd.prog .lss 3 y106 (.int .i64 0)) H107) fun y108 H109 =>
    S.b (gd (wd y108 false) (some (y106, H109)) H109) fun y110 H111 =>
    S.b (gd (wd y108 false) (some (y95, H111)) H111) fun y112 H113 =>
    S.b (gd (wd y108 false) (up (lenS y112) H113) H113) fun y114 H115 =>
    S.b (gd (wd y108 false) (up (binB Tryd.prog .geq 3 y110 y114) H115) H115) fun y116 H117 =>
    S.b (pickV y108 (.bool true) y116 H117) fun y118 H119 =>
    S.b (gd (wd y118 false) (some (y96, H119)) H119) fun y120 H121 =>
    S.b (gd (wd y118 false) (some (y106, H121)) H121) fun y122 H123 =>
    S.b (gd (wd y118 false) (some (y98, H123)) H123) fun y124 H125 =>
    S.b (gd (wd y118 false) (C 12 [y120, y122, y124] H125) H125) fun y126 H127 =>
    S.b (pickV y118 (.bool true) y126 H127) fun y128 H129 =>
    S.b (gd (wd y128 false) (some (y97, H129)) H129) fun y130 H131 =>
    S.b (gd (wd y128 false) (some (y106, H131)) H131) fun y132 H133 =>
    S.b (gd (wd y128 false) (some (y97, H133)) H133) fun y134 H135 =>
    S.b (gd (wd y128 false) (up (lenS y134) H135) H135) fun y136 H137 =>
    S.b (gd (wd y128 false) (C 12 [y130, y132, y136] H137) H137) fun y138 H139 =>
    S.b (gd (wd y128 false) (up (unB .not y138) H139) H139) fun y140 H141 =>
    S.b (pickV y128 (.bool true) y140 H141) fun y142 H143 =>
    S.i y142
    (some ((.bool false), H143))
    (f3_L1 S C n (f3_L0 S C n m) n y95 y96 y97 y98 y106 (.int .i64 0) H143))
   (S.b (C 8 [] H103) fun y181 H182 =>
    some (y181, H182))

noncomputable def f3_L0G (S : Seam (Value × Heap)) (C : CallF) (n : Nat) (R0 : Value→Value→Value→Value→Heap→Option (Value × Heap)) (P1 : Env → Heap → Option (Value × Heap)) (env : Env) (H : Heap) : Option (Value × Heap) :=
 S.b (up (lenS (env 7)) H) fun y183 H184 =>
 S.b (up (binB Tryd.prog .lss 3 (env 12) y183) H184) fun y185 H186 =>
 S.i y185
 (S.b (up (iAddrS 1 (env 7) (env 12)) H186) fun y187 H188 =>
  S.b (ldC y187 H188) fun y189 H190 =>
  S.b (up (binB Tryd.prog .lss 3 y189 (.int .i64 0)) H190) fun y191 H192 =>
  S.b (gd (wd y191 false) (some (y189, H192)) H192) fun y193 H194 =>
  S.b (gd (wd y191 false) (some ((env 5), H194)) H194) fun y195 H196 =>
  S.b (gd (wd y191 false) (up (lenS y195) H196) H196) fun y197 H198 =>
  S.b (gd (wd y191 false) (up (binB Tryd.prog .geq 3 y193 y197) H198) H198) fun y199 H200 =>
  S.b (pickV y191 (.bool true) y199 H200) fun y201 H202 =>
  S.b (gd (wd y201 false) (some ((env 7), H202)) H202) fun y203 H204 =>
  S.b (gd (wd y201 false) (some (y189, H204)) H204) fun y205 H206 =>
  S.b (gd (wd y201 false) (some ((env 12), H206)) H206) fun y207 H208 =>
  S.b (gd (wd y201 false) (C 12 [y203, y205, y207] H208) H208) fun y209 H210 =>
  S.b (pickV y201 (.bool true) y209 H210) fun y211 H212 =>
  S.b (gd (wd y211 false) (some ((env 10), H212)) H212) fun y213 H214 =>
  S.b (gd (wd y211 false) (some (y189, H214)) H214) fun y215 H216 =>
  S.b (gd (wd y211 false) (some ((env 10), H216)) H216) fun y217 H218 =>
  S.b (gd (wd y211 false) (up (lenS y217) H218) H218) fun y219 H220 =>
  S.b (gd (wd y211 false) (C 12 [y213, y215, y219] H220) H220) fun y221 H222 =>
  S.b (gd (wd y211 false) (up (unB .not y221) H222) H222) fun y223 H224 =>
  S.b (pickV y211 (.bool true) y223 H224) fun y225 H226 =>
  S.i y225
  (some ((.bool false), H226))
  (P1 (putE 139 (putE 139 (putE 139 (putE 139 (putE 139 (putE 139 (putE 139 (putE 139 (putE 139 (putE 139 (putE 139 (putE 139 (putE 139 (putE 139 (putE 139 (putE 139 (putE 139 (putE 139 (putE 139 (putE 139 (putE 139 (putE 139 (putE 139 (putE 139 (putE 139 (putE 139 (putE 139 (putE 139 (putE 139 (putE 139 (putE 139 (putE 139 env (some 82) (env 12)) (some 83) (env 7)) (some 84) y183) (some 85) y185) (some 88) (env 7)) (some 89) (env 12)) (some 90) y187) (some 91) y189) (some 13) y189) (some 92) y189) (some 93) y191) (some 94) y191) (some 95) y193) (some 96) y195) (some 97) y197) (some 98) y199) (some 99) y201) (some 100) y201) (some 101) y203) (some 102) y205) (some 103) y207) (some 104) y209) (some 105) y211) (some 106) y211) (some 107) y213) (some 108) y215) (some 109) y217) (some 110) y219) (some 111) y221) (some 112) y223) (some 113) y225) (some 14) (.int .i64 0)) H226))
 (S.b (C 8 [] H186) fun y227 H228 =>
  some (y227, H228))

theorem f3_L0_eq (S : Seam (Value × Heap)) (C : CallF) (n : Nat) : ∀ (m : Nat) (env : Env) (H : Heap), aloopK (acodeK S Tryd.prog C n 139 (cAt f3_c [1, 1, 1, 1, 1, 1, 1, 1, 0, 1, 0, 0])) m env H (kAt S Tryd.prog C n 139 f3_c [1, 1, 1, 1, 1, 1, 1, 1, 0, 1, 0] (fin Tryd.prog Tryd.f3)) = f3_L0 S C n m (env 5) (env 7) (env 10) (env 12) H := by
  intro m env H
  refine aloopK_eq (L := fun m env H => f3_L0 S C n m (env 5) (env 7) (env 10) (env 12) H) (fun env H => rfl) (fun m env H => ?_) m env H
  have h1 : acodeK S Tryd.prog C n 139 (cAt f3_c [1, 1, 1, 1, 1, 1, 1, 1, 0, 1, 0, 0]) env H (onNormal (fun env' H' => f3_L0 S C n m (env' 5) (env' 7) (env' 10) (env' 12) H') (kAt S Tryd.prog C n 139 f3_c [1, 1, 1, 1, 1, 1, 1, 1, 0, 1, 0] (fin Tryd.prog Tryd.f3))) = f3_L0G S C n (f3_L0 S C n m) (fun env H => aloopK (acodeK S Tryd.prog C n 139 (cAt f3_c [1, 1, 1, 1, 1, 1, 1, 1, 0, 1, 0, 0, 1, 0, 0, 1, 1, 1, 0, 0])) n env H (kAt S Tryd.prog C n 139 (cAt f3_c [1, 1, 1, 1, 1, 1, 1, 1, 0, 1, 0, 0]) [1, 0, 0, 1, 1, 1, 0] (onNormal (fun env' H' => (f3_L0 S C n m) (env' 5) (env' 7) (env' 10) (env' 12) H') (kAt S Tryd.prog C n 139 f3_c [1, 1, 1, 1, 1, 1, 1, 1, 0, 1, 0] (fin Tryd.prog Tryd.f3))))) env H := by kernel_rfl
  have e0 : (fun env H => aloopK (acodeK S Tryd.prog C n 139 (cAt f3_c [1, 1, 1, 1, 1, 1, 1, 1, 0, 1, 0, 0, 1, 0, 0, 1, 1, 1, 0, 0])) n env H (kAt S Tryd.prog C n 139 (cAt f3_c [1, 1, 1, 1, 1, 1, 1, 1, 0, 1, 0, 0]) [1, 0, 0, 1, 1, 1, 0] (onNormal (fun env' H' => (f3_L0 S C n m) (env' 5) (env' 7) (env' 10) (env' 12) H') (kAt S Tryd.prog C n 139 f3_c [1, 1, 1, 1, 1, 1, 1, 1, 0, 1, 0] (fin Tryd.prog Tryd.f3))))) = (fun env H => f3_L1 S C n (f3_L0 S C n m) n (env 5) (env 7) (env 10) (env 12) (env 13) (env 14) H) := by funext env H; exact f3_L1_eq S C n (f3_L0 S C n m) n env H
  rw [e0] at h1
  exact h1.trans (by kernel_rfl)


noncomputable def f3 (S : Seam (Value × Heap)) (C : CallF) (n : Nat) (x0 : Value) (x1 : Value) (H : Heap) : Option (Value × Heap) :=
 S.b (C 7 [x0] H) fun y1 H2 =>
 S.b (up (lenS y1) H2) fun y3 H4 =>
 S.b (up (binB Tryd.prog .eql 3 y3 (.int .i64 0)) H4) fun y5 H6 =>
 S.i y5
 (S.b (C 8 [] H6) fun y7 H8 =>
  some (y7, H8))
 (S.b (up (lenS y1) H6) fun y9 H10 =>
  S.b (C 9 [x1, y9] H10) fun y11 H12 =>
  S.b (up (iAddrS 2 y1 y11) H12) fun y13 H14 =>
  S.b (up (fAddr 0 y13) H14) fun y15 H16 =>
  S.b (ldC y15 H16) fun y17 H18 =>
  S.b (C 10 [y17, y1] H18) fun y19 H20 =>
  S.b (extr 0 y19 H20) fun y21 H22 =>
  S.b (extr 1 y19 H22) fun y23 H24 =>
  S.b (extr 2 y19 H24) fun y25 H26 =>
  S.b (up (iAddrS 2 y1 y11) H26) fun y27 H28 =>
  S.b (up (fAddr 0 y27) H28) fun y29 H30 =>
  S.b (ldC y29 H30) fun y31 H32 =>
  S.b (C 11 [y31, y1] H32) fun y33 H34 =>
  S.b (extr 0 y33 H34) fun y35 H36 =>
  S.b (extr 1 y33 H36) fun y37 H38 =>
  S.b (up (binB Tryd.prog .neq 28 y25 (.int .i64 0)) H38) fun y39 H40 =>
  S.i y39
  (S.b (up (lenS y21) H40) fun y41 H42 =>
   S.b (up (binB Tryd.prog .eql 3 y41 (.int .i64 0)) H42) fun y43 H44 =>
   S.b (gd (wd y43 true) (some (y37, H44)) H44) fun y45 H46 =>
   S.b (gd (wd y43 true) (up (binB Tryd.prog .eql 28 y45 (.int .i64 0)) H46) H46) fun y47 H48 =>
   S.b (pickV y43 y47 (.bool false) H48) fun y49 H50 =>
   S.b (gd (wd y49 true) (C 8 [] H50) H50) fun y51 H52 =>
   S.b (pickV y49 y51 (.bool false) H52) fun y53 H54 =>
   some (y53, H54))
  (S.b (up (binB Tryd.prog .neq 28 y37 (.int .i64 0)) H40) fun y55 H56 =>
   S.b (gd (wd y55 false) (some (y21, H56)) H56) fun y57 H58 =>
   S.b (gd (wd y55 false) (up (lenS y57) H58) H58) fun y59 H60 =>
   S.b (gd (wd y55 false) (some (y35, H60)) H60) fun y61 H62 =>
   S.b (gd (wd y55 false) (up (lenS y61) H62) H62) fun y63 H64 =>
   S.b (gd (wd y55 false) (up (binB Tryd.prog .neq 3 y59 y63) H64) H64) fun y65 H66 =>
   S.b (pickV y55 (.bool true) y65 H66) fun y67 H68 =>
   S.b (gd (wd y67 false) (some (y21, H68)) H68) fun y69 H70 =>
   S.b (gd (wd y67 false) (up (lenS y69) H70) H70) fun y71 H72 =>
   S.b (gd (wd y67 false) (up (binB Tryd.prog .eql 3 y71 (.int .i64 0)) H72) H72) fun y73 H74 =>
   S.b (pickV y67 (.bool true) y73 H74) fun y75 H76 =>
   S.b (gd (wd y75 false) (some (y21, H76)) H76) fun y77 H78 =>
   S.b (gd (wd y75 false) (some (y21, H78)) H78) fun y79 H80 =>
   S.b (gd (wd y75 false) (up (lenS y79) H80) H80) fun y81 H82 =>
   S.b (gd (wd y75 false) (up (binB Tryd.prog .sub 3 y81 (.int .i64 1)) H82) H82) fun y83 H84 =>
   S.b (gd (wd y75 false) (up (iAddrS 1 y77 y83) H84) H84) fun y85 H86 =>
   S.b (gd (wd y75 false) (ldC y85 H86) H86) fun y87 H88 =>
   S.b (gd (wd y75 false) (some (y11, H88)) H88) fun y89 H90 =>
   S.b (gd (wd y75 false) (up (binB Tryd.prog .neq 3 y87 y89) H90) H90) fun y91 H92 =>
   S.b (pickV y75 (.bool true) y91 H92) fun y93 H94 =>
   S.i y93
   (some ((.bool false), H94))
   (f3_L0 S C n n y1 y21 y35 (.int .i64 0) H94)))

noncomputable def f3G (S : Seam (Value × Heap)) (C : CallF) (n : Nat) (P0 : Env → Heap → Option (Value × Heap)) (x0 : Value) (x1 : Value) (H : Heap) : Option (Value × Heap) :=
 S.b (C 7 [x0] H) fun y229 H230 =>
 S.b (up (lenS y229) H230) fun y231 H232 =>
 S.b (up (binB Tryd.prog .eql 3 y231 (.int .i64 0)) H232) fun y233 H234 =>
 S.i y233
 (S.b (C 8 [] H234) fun y235 H236 =>
  some (y235, H236))
 (S.b (up (lenS y229) H234) fun y237 H238 =>
  S.b (C 9 [x1, y237] H238) fun y239 H240 =>
  S.b (up (iAddrS 2 y229 y239) H240) fun y241 H242 =>
  S.b (up (fAddr 0 y241) H242) fun y243 H244 =>
  S.b (ldC y243 H244) fun y245 H246 =>
  S.b (C 10 [y245, y229] H246) fun y247 H248 =>
  S.b (extr 0 y247 H248) fun y249 H250 =>
  S.b (extr 1 y247 H250) fun y251 H252 =>
  S.b (extr 2 y247 H252) fun y253 H254 =>
  S.b (up (iAddrS 2 y229 y239) H254) fun y255 H256 =>
  S.b (up (fAddr 0 y255) H256) fun y257 H258 =>
  S.b (ldC y257 H258) fun y259 H260 =>
  S.b (C 11 [y259, y229] H260) fun y261 H262 =>
  S.b (extr 0 y261 H262) fun y263 H264 =>
  S.b (extr 1 y261 H264) fun y265 H266 =>
  S.b (up (binB Tryd.prog .neq 28 y253 (.int .i64 0)) H266) fun y267 H268 =>
  S.i y267
  (S.b (up (lenS y249) H268) fun y269 H270 =>
   S.b (up (binB Tryd.prog .eql 3 y269 (.int .i64 0)) H270) fun y271 H272 =>
   S.b (gd (wd y271 true) (some (y265, H272)) H272) fun y273 H274 =>
   S.b (gd (wd y271 true) (up (binB Tryd.prog .eql 28 y273 (.int .i64 0)) H274) H274) fun y275 H276 =>
   S.b (pickV y271 y275 (.bool false) H276) fun y277 H278 =>
   S.b (gd (wd y277 true) (C 8 [] H278) H278) fun y279 H280 =>
   S.b (pickV y277 y279 (.bool false) H280) fun y281 H282 =>
   some (y281, H282))
  (S.b (up (binB Tryd.prog .neq 28 y265 (.int .i64 0)) H268) fun y283 H284 =>
   S.b (gd (wd y283 false) (some (y249, H284)) H284) fun y285 H286 =>
   S.b (gd (wd y283 false) (up (lenS y285) H286) H286) fun y287 H288 =>
   S.b (gd (wd y283 false) (some (y263, H288)) H288) fun y289 H290 =>
   S.b (gd (wd y283 false) (up (lenS y289) H290) H290) fun y291 H292 =>
   S.b (gd (wd y283 false) (up (binB Tryd.prog .neq 3 y287 y291) H292) H292) fun y293 H294 =>
   S.b (pickV y283 (.bool true) y293 H294) fun y295 H296 =>
   S.b (gd (wd y295 false) (some (y249, H296)) H296) fun y297 H298 =>
   S.b (gd (wd y295 false) (up (lenS y297) H298) H298) fun y299 H300 =>
   S.b (gd (wd y295 false) (up (binB Tryd.prog .eql 3 y299 (.int .i64 0)) H300) H300) fun y301 H302 =>
   S.b (pickV y295 (.bool true) y301 H302) fun y303 H304 =>
   S.b (gd (wd y303 false) (some (y249, H304)) H304) fun y305 H306 =>
   S.b (gd (wd y303 false) (some (y249, H306)) H306) fun y307 H308 =>
   S.b (gd (wd y303 false) (up (lenS y307) H308) H308) fun y309 H310 =>
   S.b (gd (wd y303 false) (up (binB Tryd.prog .sub 3 y309 (.int .i64 1)) H310) H310) fun y311 H312 =>
   S.b (gd (wd y303 false) (up (iAddrS 1 y305 y311) H312) H312) fun y313 H314 =>
   S.b (gd (wd y303 false) (ldC y313 H314) H314) fun y315 H316 =>
   S.b (gd (wd y303 false) (some (y239, H316)) H316) fun y317 H318 =>
   S.b (gd (wd y303 false) (up (binB Tryd.prog .neq 3 y315 y317) H318) H318) fun y319 H320 =>
   S.b (pickV y303 (.bool true) y319 H320) fun y321 H322 =>
   S.i y321
   (some ((.bool false), H322))
   (P0 (putE 139 (putE 139 (putE 139 (putE 139 (putE 139 (putE 139 (putE 139 (putE 139 (putE 139 (putE 139 (putE 139 (putE 139 (putE 139 (putE 139 (putE 139 (putE 139 (putE 139 (putE 139 (putE 139 (putE 139 (putE 139 (putE 139 (putE 139 (putE 139 (putE 139 (putE 139 (putE 139 (putE 139 (putE 139 (putE 139 (putE 139 (putE 139 (putE 139 (putE 139 (putE 139 (putE 139 (putE 139 (putE 139 (putE 139 (putE 139 (putE 139 (putE 139 (putE 139 (putE 139 (putE 139 (putE 139 (putE 139 (putE 139 (putE 139 (putE 139 (putE 139 (putE 139 (putE 139 (putE 139 (putE 139 (putE 139 (putE 139 (putE 139 (putE 139 (putE 139 (putE 139 (putE 139 (putE 139 (putE 139 (putE 139 (env0 [x0, x1]) (some 4) (.bool false)) (some 15) x0) (some 16) y229) (some 5) y229) (some 17) y229) (some 18) y231) (some 19) y233) (some 21) x1) (some 22) y229) (some 23) y237) (some 24) y239) (some 6) y239) (some 26) y229) (some 27) y239) (some 28) y241) (some 29) y243) (some 30) y245) (some 31) y229) (some 32) y247) (some 25) y247) (some 33) y249) (some 34) y251) (some 35) y253) (some 7) y249) (some 8) y251) (some 9) y253) (some 37) y229) (some 38) y239) (some 39) y255) (some 40) y257) (some 41) y259) (some 42) y229) (some 43) y261) (some 36) y261) (some 44) y263) (some 45) y265) (some 10) y263) (some 11) y265) (some 46) y253) (some 47) y267) (some 58) y265) (some 59) y283) (some 60) y283) (some 61) y285) (some 62) y287) (some 63) y289) (some 64) y291) (some 65) y293) (some 66) y295) (some 67) y295) (some 68) y297) (some 69) y299) (some 70) y301) (some 71) y303) (some 72) y303) (some 73) y305) (some 74) y307) (some 75) y309) (some 76) y311) (some 77) y313) (some 78) y315) (some 79) y317) (some 80) y319) (some 81) y321) (some 12) (.int .i64 0)) H322)))

theorem f3_main (S : Seam (Value × Heap)) (C : CallF) (n : Nat) (x0 : Value) (x1 : Value) (H : Heap) : acodeK S Tryd.prog C n 139 f3_c (env0 [x0, x1]) H (fin Tryd.prog Tryd.f3) = f3 S C n x0 x1 H := by
  have h1 : acodeK S Tryd.prog C n 139 f3_c (env0 [x0, x1]) H (fin Tryd.prog Tryd.f3) = f3G S C n (fun env H => aloopK (acodeK S Tryd.prog C n 139 (cAt f3_c [1, 1, 1, 1, 1, 1, 1, 1, 0, 1, 0, 0])) n env H (kAt S Tryd.prog C n 139 f3_c [1, 1, 1, 1, 1, 1, 1, 1, 0, 1, 0] (fin Tryd.prog Tryd.f3))) x0 x1 H := by kernel_rfl
  have e0 : (fun env H => aloopK (acodeK S Tryd.prog C n 139 (cAt f3_c [1, 1, 1, 1, 1, 1, 1, 1, 0, 1, 0, 0])) n env H (kAt S Tryd.prog C n 139 f3_c [1, 1, 1, 1, 1, 1, 1, 1, 0, 1, 0] (fin Tryd.prog Tryd.f3))) = (fun env H => f3_L0 S C n n (env 5) (env 7) (env 10) (env 12) H) := by funext env H; exact f3_L0_eq S C n n env H
  rw [e0] at h1
  exact h1.trans (by kernel_rfl)


theorem f3_eq {gl : Bool} {E : Ext} (hE : E 3 = none) (n : Nat) (x0 : Value) (x1 : Value) (H : Heap) : acall Tryd.prog gl E (n + 1) 3 [x0, x1] H = f3 real (acall Tryd.prog gl E n) n x0 x1 H :=
  (acall_eq (N := 139) Tryd.func3 (by kernel_rfl) (by kernel_rfl) hE (okgl f3_c (by kernel_rfl)) (by kernel_rfl)).trans (f3_main real _ n x0 x1 H)

/-! incunable/incunablelaw16.ImportsJust -/
noncomputable def f4_c : Code := (Tryd.f4.body).getD .skip

noncomputable def f4_L1 (S : Seam (Value × Heap)) (C : CallF) (n : Nat) (R0 : Value→Value→Value→Value→Value→Value→Value→Heap→Option (Value × Heap)) : Nat → Value → Value → Value → Value → Value → Value → Value → Value → Value → Heap → Option (Value × Heap)
 | 0, _, _, _, _, _, _, _, _, _, _ => none
 | m + 1, y69, y70, y71, y72, y73, y74, y75, y76, y77, H78 =>
   S.b (up (iAddrS 2 y69 y76) H78) fun y79 H80 =>
   S.b (up (fAddr 1 y79) H80) fun y81 H82 =>
   S.b (ldC y81 H82) fun y83 H84 =>
   S.b (up (lenS y83) H84) fun y85 H86 =>
   S.b (up (binB Tryd.prog .lss 3 y77 y85) H86) fun y87 H88 =>
   S.i y87
   (S.b (up (iAddrS 2 y69 y76) H88) fun y89 H90 =>
    S.b (up (fAddr 1 y89) H90) fun y91 H92 =>
    S.b (ldC y91 H92) fun y93 H94 =>
    S.b (up (iAddrS 1 y93 y77) H94) fun y95 H96 =>
    S.b (ldC y95 H96) fun y97 H98 =>
    S.b (gd (wd y73 false) (some (y69, H98)) H98) fun y99 H100 =>
    S.b (gd (wd y73 false) (some (y97, H100)) H100) fun y101 H102 =>
    S.b (gd (wd y73 false) (C 13 [y99, y101] H102) H102) fun y103 H104 =>
    S.b (gd (wd y73 false) (up (binB Tryd.prog .lss 3 y103 (.int .i64 0)) H104) H104) fun y105 H106 =>
    S.b (pickV y73 (.bool true) y105 H106) fun y107 H108 =>
    S.b (C 11 [y97, y69] H108) fun y109 H110 =>
    S.b (extr 0 y109 H110) fun y111 H112 =>
    S.b (extr 1 y109 H112) fun y113 H114 =>
    S.b (up (binB Tryd.prog .neq 28 y113 (.int .i64 0)) H114) fun y115 H116 =>
    S.i y115
    (some ((.bool false), H116))
    (S.b (gd (wd y74 false) (some (y111, H116)) H116) fun y117 H118 =>
     S.b (gd (wd y74 false) (some (y76, H118)) H118) fun y119 H120 =>
     S.b (gd (wd y74 false) (some (y111, H120)) H120) fun y121 H122 =>
     S.b (gd (wd y74 false) (up (lenS y121) H122) H122) fun y123 H124 =>
     S.b (gd (wd y74 false) (C 12 [y117, y119, y123] H124) H124) fun y125 H126 =>
     S.b (pickV y74 (.bool true) y125 H126) fun y127 H128 =>
     S.b (up (binB Tryd.prog .add 3 y77 (.int .i64 1)) H128) fun y129 H130 =>
     f4_L1 S C n R0 m y69 y70 y71 y72 y107 y127 y75 y76 y129 H130))
   (S.b (up (binB Tryd.prog .add 3 y75 (.int .i64 1)) H88) fun y131 H132 =>
    R0 y69 y70 y71 y72 y73 y74 y131 H132)

theorem f4_L1_eq (S : Seam (Value × Heap)) (C : CallF) (n : Nat) (R0 : Value→Value→Value→Value→Value→Value→Value→Heap→Option (Value × Heap)) : ∀ (m : Nat) (env : Env) (H : Heap), aloopK (acodeK S Tryd.prog C n 150 (cAt f4_c [1, 1, 1, 1, 1, 1, 1, 1, 0, 1, 0, 0, 1, 0, 0, 1, 1, 1, 0, 0])) m env H (kAt S Tryd.prog C n 150 (cAt f4_c [1, 1, 1, 1, 1, 1, 1, 1, 0, 1, 0, 0]) [1, 0, 0, 1, 1, 1, 0] (onNormal (fun env' H' => R0 (env' 5) (env' 8) (env' 9) (env' 10) (env' 12) (env' 13) (env' 14) H') (kAt S Tryd.prog C n 150 f4_c [1, 1, 1, 1, 1, 1, 1, 1, 0, 1, 0] (fin Tryd.prog Tryd.f4)))) = f4_L1 S C n R0 m (env 5) (env 8) (env 9) (env 10) (env 12) (env 13) (env 14) (env 15) (env 16) H := by
  intro m env H
  refine aloopK_eq (L := fun m env H => f4_L1 S C n R0 m (env 5) (env 8) (env 9) (env 10) (env 12) (env 13) (env 14) (env 15) (env 16) H) (fun env H => rfl) (fun m env H => ?_) m env H
  kernel_rfl


noncomputable def f4_L0 (S : Seam (Value × Heap)) (C : CallF) (n : Nat) : Nat → Value → Value → Value → Value → Value → Value → Value → Heap → Option (Value × Heap)
 | 0, _, _, _, _, _, _, _, _ => none
 | m + 1, y41, y42, y43, y44, y45, y46, y47, H48 =>
   S.b (up (lenS y44) H48) fun y49 H50 =>
   S.b (up (binB Tryd.prog .lss 3 y47 y49) H50) fun y51 H52 =>
   S.i y51
   (S.b (up (iAddrS 1 y44 y47) H52) fun y53 H54 =>
    S.b (ldC y53 H54) fun y55 H56 =>
    S.b (up (binB Tryd.prog .lss 3 y55 (.int .i64 0)) H56) fun y57 H58 =>
    S.b (gd (wd y57 false) (some (y55, H58)) H58) fun y59 H60 =>
    S.b (gd (wd y57 false) (some (y41, H60)) H60) fun y61 H62 =>
    S.b (gd (wd y57 false) (up (lenS y61) H62) H62) fun y63 H64 =>
    S.b (gd (wd y57 false) (up (binB Tryd.prog .geq 3 y59 y63) H64) H64) fun y65 H66 =>
    S.b (pickV y57 (.bool true) y65 H66) fun y67 H68 =>
    S.i y67
    (some ((.bool false), H68))
    (f4_L1 S C n (f4_L0 S C n m) n y41 y42 y43 y44 y45 y46 y47 y55 (.int .i64 0) H68))
   (S.b (up (binB Tryd.prog .eql 28 y43 (.int .i64 0)) H52) fun y133 H134 =>
    S.i y133
    (S.b (up (unB .not y45) H134) fun y135 H136 =>
     S.b (gd (wd y135 true) (some (y46, H136)) H136) fun y137 H138 =>
     S.b (gd (wd y135 true) (up (unB .not y137) H138) H138) fun y139 H140 =>
     S.b (pickV y135 y139 (.bool false) H140) fun y141 H142 =>
     S.b (gd (wd y141 true) (C 8 [] H142) H142) fun y143 H144 =>
     S.b (pickV y141 y143 (.bool false) H144) fun y145 H146 =>
     some (y145, H146))
    (S.b (up (binB Tryd.prog .eql 28 y43 (.int .i64 160)) H134) fun y147 H148 =>
     S.b (gd (wd y147 true) (some (y45, H148)) H148) fun y149 H150 =>
     S.b (pickV y147 y149 (.bool false) H150) fun y151 H152 =>
     S.b (gd (wd y151 true) (some (y41, H152)) H152) fun y153 H154 =>
     S.b (gd (wd y151 true) (some (y42, H154)) H154) fun y155 H156 =>
     S.b (gd (wd y151 true) (C 13 [y153, y155] H156) H156) fun y157 H158 =>
     S.b (gd (wd y151 true) (up (binB Tryd.prog .lss 3 y157 (.int .i64 0)) H158) H158) fun y159 H160 =>
     S.b (pickV y151 y159 (.bool false) H160) fun y161 H162 =>
     S.b (gd (wd y161 false) (some (y43, H162)) H162) fun y163 H164 =>
     S.b (gd (wd y161 false) (up (binB Tryd.prog .eql 28 y163 (.int .i64 161)) H164) H164) fun y165 H166 =>
     S.b (gd (wd y161 false) (some (y165, H166)) H166) fun y167 H168 =>
     S.b (gd (wd y167 true) (some (y46, H168)) H168) fun y169 H170 =>
     S.b (gd (wd y161 false) (pickV y167 y169 (.bool false) H170) H170) fun y171 H172 =>
     S.b (gd (wd y161 false) (some (y171, H172)) H172) fun y173 H174 =>
     S.b (gd (wd y173 true) (some (y41, H174)) H174) fun y175 H176 =>
     S.b (gd (wd y173 true) (some (y42, H176)) H176) fun y177 H178 =>
     S.b (gd (wd y173 true) (C 13 [y175, y177] H178) H178) fun y179 H180 =>
     S.b (gd (wd y173 true) (up (binB Tryd.prog .geq 3 y179 (.int .i64 0)) H180) H180) fun y181 H182 =>
     S.b (gd (wd y161 false) (pickV y173 y181 (.bool false) H182) H182) fun y183 H184 =>
     S.b (pickV y161 (.bool true) y183 H184) fun y185 H186 =>
     S.b (gd (wd y185 true) (C 8 [] H186) H186) fun y187 H188 =>
     S.b (pickV y185 y187 (.bool false) H188) fun y189 H190 =>
     some (y189, H190)))

noncomputable def f4_L0G (S : Seam (Value × Heap)) (C : CallF) (n : Nat) (R0 : Value→Value→Value→Value→Value→Value→Value→Heap→Option (Value × Heap)) (P1 : Env → Heap → Option (Value × Heap)) (env : Env) (H : Heap) : Option (Value × Heap) :=
 S.b (up (lenS (env 10)) H) fun y191 H192 =>
 S.b (up (binB Tryd.prog .lss 3 (env 14) y191) H192) fun y193 H194 =>
 S.i y193
 (S.b (up (iAddrS 1 (env 10) (env 14)) H194) fun y195 H196 =>
  S.b (ldC y195 H196) fun y197 H198 =>
  S.b (up (binB Tryd.prog .lss 3 y197 (.int .i64 0)) H198) fun y199 H200 =>
  S.b (gd (wd y199 false) (some (y197, H200)) H200) fun y201 H202 =>
  S.b (gd (wd y199 false) (some ((env 5), H202)) H202) fun y203 H204 =>
  S.b (gd (wd y199 false) (up (lenS y203) H204) H204) fun y205 H206 =>
  S.b (gd (wd y199 false) (up (binB Tryd.prog .geq 3 y201 y205) H206) H206) fun y207 H208 =>
  S.b (pickV y199 (.bool true) y207 H208) fun y209 H210 =>
  S.i y209
  (some ((.bool false), H210))
  (P1 (putE 150 (putE 150 (putE 150 (putE 150 (putE 150 (putE 150 (putE 150 (putE 150 (putE 150 (putE 150 (putE 150 (putE 150 (putE 150 (putE 150 (putE 150 (putE 150 (putE 150 (putE 150 env (some 53) (env 14)) (some 54) (env 10)) (some 55) y191) (some 56) y193) (some 59) (env 10)) (some 60) (env 14)) (some 61) y195) (some 62) y197) (some 15) y197) (some 63) y197) (some 64) y199) (some 65) y199) (some 66) y201) (some 67) y203) (some 68) y205) (some 69) y207) (some 70) y209) (some 16) (.int .i64 0)) H210))
 (S.b (up (binB Tryd.prog .eql 28 (env 9) (.int .i64 0)) H194) fun y211 H212 =>
  S.i y211
  (S.b (up (unB .not (env 12)) H212) fun y213 H214 =>
   S.b (gd (wd y213 true) (some ((env 13), H214)) H214) fun y215 H216 =>
   S.b (gd (wd y213 true) (up (unB .not y215) H216) H216) fun y217 H218 =>
   S.b (pickV y213 y217 (.bool false) H218) fun y219 H220 =>
   S.b (gd (wd y219 true) (C 8 [] H220) H220) fun y221 H222 =>
   S.b (pickV y219 y221 (.bool false) H222) fun y223 H224 =>
   some (y223, H224))
  (S.b (up (binB Tryd.prog .eql 28 (env 9) (.int .i64 160)) H212) fun y225 H226 =>
   S.b (gd (wd y225 true) (some ((env 12), H226)) H226) fun y227 H228 =>
   S.b (pickV y225 y227 (.bool false) H228) fun y229 H230 =>
   S.b (gd (wd y229 true) (some ((env 5), H230)) H230) fun y231 H232 =>
   S.b (gd (wd y229 true) (some ((env 8), H232)) H232) fun y233 H234 =>
   S.b (gd (wd y229 true) (C 13 [y231, y233] H234) H234) fun y235 H236 =>
   S.b (gd (wd y229 true) (up (binB Tryd.prog .lss 3 y235 (.int .i64 0)) H236) H236) fun y237 H238 =>
   S.b (pickV y229 y237 (.bool false) H238) fun y239 H240 =>
   S.b (gd (wd y239 false) (some ((env 9), H240)) H240) fun y241 H242 =>
   S.b (gd (wd y239 false) (up (binB Tryd.prog .eql 28 y241 (.int .i64 161)) H242) H242) fun y243 H244 =>
   S.b (gd (wd y239 false) (some (y243, H244)) H244) fun y245 H246 =>
   S.b (gd (wd y245 true) (some ((env 13), H246)) H246) fun y247 H248 =>
   S.b (gd (wd y239 false) (pickV y245 y247 (.bool false) H248) H248) fun y249 H250 =>
   S.b (gd (wd y239 false) (some (y249, H250)) H250) fun y251 H252 =>
   S.b (gd (wd y251 true) (some ((env 5), H252)) H252) fun y253 H254 =>
   S.b (gd (wd y251 true) (some ((env 8), H254)) H254) fun y255 H256 =>
   S.b (gd (wd y251 true) (C 13 [y253, y255] H256) H256) fun y257 H258 =>
   S.b (gd (wd y251 true) (up (binB Tryd.prog .geq 3 y257 (.int .i64 0)) H258) H258) fun y259 H260 =>
   S.b (gd (wd y239 false) (pickV y251 y259 (.bool false) H260) H260) fun y261 H262 =>
   S.b (pickV y239 (.bool true) y261 H262) fun y263 H264 =>
   S.b (gd (wd y263 true) (C 8 [] H264) H264) fun y265 H266 =>
   S.b (pickV y263 y265 (.bool false) H266) fun y267 H268 =>
   some (y267, H268)))

theorem f4_L0_eq (S : Seam (Value × Heap)) (C : CallF) (n : Nat) : ∀ (m : Nat) (env : Env) (H : Heap), aloopK (acodeK S Tryd.prog C n 150 (cAt f4_c [1, 1, 1, 1, 1, 1, 1, 1, 0, 1, 0, 0])) m env H (kAt S Tryd.prog C n 150 f4_c [1, 1, 1, 1, 1, 1, 1, 1, 0, 1, 0] (fin Tryd.prog Tryd.f4)) = f4_L0 S C n m (env 5) (env 8) (env 9) (env 10) (env 12) (env 13) (env 14) H := by
  intro m env H
  refine aloopK_eq (L := fun m env H => f4_L0 S C n m (env 5) (env 8) (env 9) (env 10) (env 12) (env 13) (env 14) H) (fun env H => rfl) (fun m env H => ?_) m env H
  have h1 : acodeK S Tryd.prog C n 150 (cAt f4_c [1, 1, 1, 1, 1, 1, 1, 1, 0, 1, 0, 0]) env H (onNormal (fun env' H' => f4_L0 S C n m (env' 5) (env' 8) (env' 9) (env' 10) (env' 12) (env' 13) (env' 14) H') (kAt S Tryd.prog C n 150 f4_c [1, 1, 1, 1, 1, 1, 1, 1, 0, 1, 0] (fin Tryd.prog Tryd.f4))) = f4_L0G S C n (f4_L0 S C n m) (fun env H => aloopK (acodeK S Tryd.prog C n 150 (cAt f4_c [1, 1, 1, 1, 1, 1, 1, 1, 0, 1, 0, 0, 1, 0, 0, 1, 1, 1, 0, 0])) n env H (kAt S Tryd.prog C n 150 (cAt f4_c [1, 1, 1, 1, 1, 1, 1, 1, 0, 1, 0, 0]) [1, 0, 0, 1, 1, 1, 0] (onNormal (fun env' H' => (f4_L0 S C n m) (env' 5) (env' 8) (env' 9) (env' 10) (env' 12) (env' 13) (env' 14) H') (kAt S Tryd.prog C n 150 f4_c [1, 1, 1, 1, 1, 1, 1, 1, 0, 1, 0] (fin Tryd.prog Tryd.f4))))) env H := by kernel_rfl
  have e0 : (fun env H => aloopK (acodeK S Tryd.prog C n 150 (cAt f4_c [1, 1, 1, 1, 1, 1, 1, 1, 0, 1, 0, 0, 1, 0, 0, 1, 1, 1, 0, 0])) n env H (kAt S Tryd.prog C n 150 (cAt f4_c [1, 1, 1, 1, 1, 1, 1, 1, 0, 1, 0, 0]) [1, 0, 0, 1, 1, 1, 0] (onNormal (fun env' H' => (f4_L0 S C n m) (env' 5) (env' 8) (env' 9) (env' 10) (env' 12) (env' 13) (env' 14) H') (kAt S Tryd.prog C n 150 f4_c [1, 1, 1, 1, 1, 1, 1, 1, 0, 1, 0] (fin Tryd.prog Tryd.f4))))) = (fun env H => f4_L1 S C n (f4_L0 S C n m) n (env 5) (env 8) (env 9) (env 10) (env 12) (env 13) (env 14) (env 15) (env 16) H) := by funext env H; exact f4_L1_eq S C n (f4_L0 S C n m) n env H
  rw [e0] at h1
  exact h1.trans (by kernel_rfl)


noncomputable def f4 (S : Seam (Value × Heap)) (C : CallF) (n : Nat) (x0 : Value) (x1 : Value) (H : Heap) : Option (Value × Heap) :=
 S.b (C 7 [x0] H) fun y1 H2 =>
 S.b (up (lenS y1) H2) fun y3 H4 =>
 S.b (up (binB Tryd.prog .eql 3 y3 (.int .i64 0)) H4) fun y5 H6 =>
 S.i y5
 (S.b (C 8 [] H6) fun y7 H8 =>
  some (y7, H8))
 (S.b (up (lenS y1) H6) fun y9 H10 =>
  S.b (C 9 [x1, y9] H10) fun y11 H12 =>
  S.b (up (iAddrS 2 y1 y11) H12) fun y13 H14 =>
  S.b (up (fAddr 0 y13) H14) fun y15 H16 =>
  S.b (ldC y15 H16) fun y17 H18 =>
  S.b (C 10 [y17, y1] H18) fun y19 H20 =>
  S.b (extr 0 y19 H20) fun y21 H22 =>
  S.b (extr 1 y19 H22) fun y23 H24 =>
  S.b (extr 2 y19 H24) fun y25 H26 =>
  S.b (up (iAddrS 2 y1 y11) H26) fun y27 H28 =>
  S.b (up (fAddr 0 y27) H28) fun y29 H30 =>
  S.b (ldC y29 H30) fun y31 H32 =>
  S.b (C 11 [y31, y1] H32) fun y33 H34 =>
  S.b (extr 0 y33 H34) fun y35 H36 =>
  S.b (extr 1 y33 H36) fun y37 H38 =>
  S.b (up (binB Tryd.prog .neq 28 y37 (.int .i64 0)) H38) fun y39 H40 =>
  S.i y39
  (some ((.bool false), H40))
  (f4_L0 S C n n y1 y23 y25 y35 (.bool false) (.bool false) (.int .i64 0) H40))

noncomputable def f4G (S : Seam (Value × Heap)) (C : CallF) (n : Nat) (P0 : Env → Heap → Option (Value × Heap)) (x0 : Value) (x1 : Value) (H : Heap) : Option (Value × Heap) :=
 S.b (C 7 [x0] H) fun y269 H270 =>
 S.b (up (lenS y269) H270) fun y271 H272 =>
 S.b (up (binB Tryd.prog .eql 3 y271 (.int .i64 0)) H272) fun y273 H274 =>
 S.i y273
 (S.b (C 8 [] H274) fun y275 H276 =>
  some (y275, H276))
 (S.b (up (lenS y269) H274) fun y277 H278 =>
  S.b (C 9 [x1, y277] H278) fun y279 H280 =>
  S.b (up (iAddrS 2 y269 y279) H280) fun y281 H282 =>
  S.b (up (fAddr 0 y281) H282) fun y283 H284 =>
  S.b (ldC y283 H284) fun y285 H286 =>
  S.b (C 10 [y285, y269] H286) fun y287 H288 =>
  S.b (extr 0 y287 H288) fun y289 H290 =>
  S.b (extr 1 y287 H290) fun y291 H292 =>
  S.b (extr 2 y287 H292) fun y293 H294 =>
  S.b (up (iAddrS 2 y269 y279) H294) fun y295 H296 =>
  S.b (up (fAddr 0 y295) H296) fun y297 H298 =>
  S.b (ldC y297 H298) fun y299 H300 =>
  S.b (C 11 [y299, y269] H300) fun y301 H302 =>
  S.b (extr 0 y301 H302) fun y303 H304 =>
  S.b (extr 1 y301 H304) fun y305 H306 =>
  S.b (up (binB Tryd.prog .neq 28 y305 (.int .i64 0)) H306) fun y307 H308 =>
  S.i y307
  (some ((.bool false), H308))
  (P0 (putE 150 (putE 150 (putE 150 (putE 150 (putE 150 (putE 150 (putE 150 (putE 150 (putE 150 (putE 150 (putE 150 (putE 150 (putE 150 (putE 150 (putE 150 (putE 150 (putE 150 (putE 150 (putE 150 (putE 150 (putE 150 (putE 150 (putE 150 (putE 150 (putE 150 (putE 150 (putE 150 (putE 150 (putE 150 (putE 150 (putE 150 (putE 150 (putE 150 (putE 150 (putE 150 (putE 150 (putE 150 (putE 150 (putE 150 (putE 150 (putE 150 (putE 150 (putE 150 (env0 [x0, x1]) (some 4) (.bool false)) (some 20) x0) (some 21) y269) (some 5) y269) (some 22) y269) (some 23) y271) (some 24) y273) (some 26) x1) (some 27) y269) (some 28) y277) (some 29) y279) (some 6) y279) (some 31) y269) (some 32) y279) (some 33) y281) (some 34) y283) (some 35) y285) (some 36) y269) (some 37) y287) (some 30) y287) (some 38) y289) (some 39) y291) (some 40) y293) (some 7) y289) (some 8) y291) (some 9) y293) (some 42) y269) (some 43) y279) (some 44) y295) (some 45) y297) (some 46) y299) (some 47) y269) (some 48) y301) (some 41) y301) (some 49) y303) (some 50) y305) (some 10) y303) (some 11) y305) (some 51) y305) (some 52) y307) (some 12) (.bool false)) (some 13) (.bool false)) (some 14) (.int .i64 0)) H308))

theorem f4_main (S : Seam (Value × Heap)) (C : CallF) (n : Nat) (x0 : Value) (x1 : Value) (H : Heap) : acodeK S Tryd.prog C n 150 f4_c (env0 [x0, x1]) H (fin Tryd.prog Tryd.f4) = f4 S C n x0 x1 H := by
  have h1 : acodeK S Tryd.prog C n 150 f4_c (env0 [x0, x1]) H (fin Tryd.prog Tryd.f4) = f4G S C n (fun env H => aloopK (acodeK S Tryd.prog C n 150 (cAt f4_c [1, 1, 1, 1, 1, 1, 1, 1, 0, 1, 0, 0])) n env H (kAt S Tryd.prog C n 150 f4_c [1, 1, 1, 1, 1, 1, 1, 1, 0, 1, 0] (fin Tryd.prog Tryd.f4))) x0 x1 H := by kernel_rfl
  have e0 : (fun env H => aloopK (acodeK S Tryd.prog C n 150 (cAt f4_c [1, 1, 1, 1, 1, 1, 1, 1, 0, 1, 0, 0])) n env H (kAt S Tryd.prog C n 150 f4_c [1, 1, 1, 1, 1, 1, 1, 1, 0, 1, 0] (fin Tryd.prog Tryd.f4))) = (fun env H => f4_L0 S C n n (env 5) (env 8) (env 9) (env 10) (env 12) (env 13) (env 14) H) := by funext env H; exact f4_L0_eq S C n n env H
  rw [e0] at h1
  exact h1.trans (by kernel_rfl)


theorem f4_eq {gl : Bool} {E : Ext} (hE : E 4 = none) (n : Nat) (x0 : Value) (x1 : Value) (H : Heap) : acall Tryd.prog gl E (n + 1) 4 [x0, x1] H = f4 real (acall Tryd.prog gl E n) n x0 x1 H :=
  (acall_eq (N := 150) Tryd.func4 (by kernel_rfl) (by kernel_rfl) hE (okgl f4_c (by kernel_rfl)) (by kernel_rfl)).trans (f4_main real _ n x0 x1 H)

/-! incunable/incunablelaw16.ImportsOthers -/
noncomputable def f5_c : Code := (Tryd.f5.body).getD .skip

noncomputable def f5_L1 (S : Seam (Value × Heap)) (C : CallF) (n : Nat) (R0 : Value→Value→Value→Value→Value→Heap→Option (Value × Heap)) : Nat → Value → Value → Value → Value → Value → Value → Value → Heap → Option (Value × Heap)
 | 0, _, _, _, _, _, _, _, _ => none
 | m + 1, y34, y35, y36, y37, y38, y39, y40, H41 =>
   S.b (up (iAddrS 1 y35 y38) H41) fun y42 H43 =>
   S.b (ldC y42 H43) fun y44 H45 =>
   S.b (up (lenS y44) H45) fun y46 H47 =>
   S.b (up (binB Tryd.prog .lss 3 y40 y46) H47) fun y48 H49 =>
   S.b (gd (wd y48 true) (some (y40, H49)) H49) fun y50 H51 =>
   S.b (gd (wd y48 true) (up (binB Tryd.prog .lss 3 y50 (.int .i64 6)) H51) H51) fun y52 H53 =>
   S.b (pickV y48 y52 (.bool false) H53) fun y54 H55 =>
   S.i y54
   (S.b (up (fAddr 1 y39) H55) fun y56 H57 =>
    S.c true (S.b (ldC y56 H57) fun y58 H59 =>
    S.b (bldS 1 2 [(.string ⟨#[]⟩)] [(0, 1, (.string ⟨#[102]⟩)), (1, 1, (.string ⟨#[103]⟩))] H59) fun y60 H61 =>
    S.b (up (iAddrS 1 y35 y38) H61) fun y62 H63 =>
    S.c true (S.b (ldC y62 H63) fun y64 H65 =>
    S.b (up (iAddrS 1 y64 y40) H65) fun y66 H67 =>
    S.c true (S.b (ldC y66 H67) fun y68 H69 =>
    S.b (C 9 [y68, (.int .i64 2)] H69) fun y70 H71 =>
    S.c (sameBlk H69 H71 (some H59.n) && (sameBlk H69 H71 (blkOf y56) && true)) (S.b (up (iAddrS 1 y60 y70) H71) fun y72 H73 =>
     S.c true (S.b (ldC y72 H73) fun y74 H75 =>
     S.b (up (iAddrS 1 y35 y38) H75) fun y76 H77 =>
     S.c ((sameBlk H69 H71 (blkOf y76)) && true) (S.b (ldC y76 H77) fun y78 H79 =>
     S.b (up (iAddrS 1 y78 y40) H79) fun y80 H81 =>
     S.c ((sameBlk H69 H71 (blkOf y80)) && true) (S.b (ldC y80 H81) fun y82 H83 =>
     S.b (C 9 [y82, (.int .i64 21)] H83) fun y84 H85 =>
     S.c (sameBlk H83 H85 (blkOf y72) && (sameBlk H83 H85 (some H59.n) && (sameBlk H83 H85 (blkOf y56) && true))) (S.b (C 14 [y84] H85) fun y86 H87 =>
      S.c (sameBlk H85 H87 (blkOf y72) && (sameBlk H85 H87 (some H59.n) && (sameBlk H85 H87 (blkOf y56) && true))) (S.b (up (binB Tryd.prog .add 9 y74 y86) H87) fun y88 H89 =>
       S.b (bldS 1 1 [(.string ⟨#[]⟩)] [(0, 1, y88)] H89) fun y90 H91 =>
       S.b (app 1 16 y58 y90 H91) fun y92 H93 =>
       S.c true (S.b (up (fAddr 1 y39) H93) fun y94 H95 =>
        S.b (stV 1 y94 y92 H95) fun _ H96 =>
        S.c true (S.b (up (binB Tryd.prog .add 3 y40 (.int .i64 1)) H96) fun y97 H98 =>
         f5_L1 S C n R0 m y34 y35 y36 y37 y38 y39 y97 H98))))))))))))
   (S.b (ldA 2 y39 H55) fun y99 H100 =>
    S.b (bldS 2 1 [(.string ⟨#[]⟩), (.slice none 0 0)] [(0, 2, y99)] H100) fun y101 H102 =>
    S.b (app 2 40 y37 y101 H102) fun y103 H104 =>
    S.b (up (binB Tryd.prog .add 3 y38 (.int .i64 1)) H104) fun y105 H106 =>
    R0 y34 y35 y36 y103 y105 H106)

theorem f5_L1_eq (S : Seam (Value × Heap)) (C : CallF) (n : Nat) (R0 : Value→Value→Value→Value→Value→Heap→Option (Value × Heap)) : ∀ (m : Nat) (env : Env) (H : Heap), aloopK (acodeK S Tryd.prog C n 190 (cAt f5_c [1, 1, 1, 1, 0, 1, 0, 0, 1, 0, 0, 1, 0, 1, 0, 0])) m env H (kAt S Tryd.prog C n 190 (cAt f5_c [1, 1, 1, 1, 0, 1, 0, 0]) [1, 0, 0, 1, 0, 1, 0] (onNormal (fun env' H' => R0 (env' 1) (env' 2) (env' 7) (env' 8) (env' 9) H') (kAt S Tryd.prog C n 190 f5_c [1, 1, 1, 1, 0, 1, 0] (fin Tryd.prog Tryd.f5)))) = f5_L1 S C n R0 m (env 1) (env 2) (env 7) (env 8) (env 9) (env 10) (env 11) H := by
  intro m env H
  refine aloopK_eq (L := fun m env H => f5_L1 S C n R0 m (env 1) (env 2) (env 7) (env 8) (env 9) (env 10) (env 11) H) (fun env H => rfl) (fun m env H => ?_) m env H
  kernel_rfl


noncomputable def f5_L3 (S : Seam (Value × Heap)) (C : CallF) (n : Nat) : Nat → Value → Value → Value → Value → Heap → Option (Value × Heap)
 | 0, _, _, _, _, _ => none
 | m + 1, y216, y217, y218, y219, H220 =>
   S.b (up (lenS y217) H220) fun y221 H222 =>
   S.b (up (binB Tryd.prog .lss 3 y219 y221) H222) fun y223 H224 =>
   S.i y223
   (S.b (up (iAddrS 1 y217 y219) H224) fun y225 H226 =>
    S.c true (S.b (ldC y225 H226) fun y227 H228 =>
    S.b (up (binB Tryd.prog .add 3 y227 y216) H228) fun y229 H230 =>
    S.b (up (iAddrS 1 y218 y219) H230) fun y231 H232 =>
    S.c true (S.b (ldC y231 H232) fun y233 H234 =>
    S.b (up (binB Tryd.prog .neq 3 y229 y233) H234) fun y235 H236 =>
    S.i y235
    (some ((.bool false), H236))
    (S.b (up (binB Tryd.prog .add 3 y219 (.int .i64 1)) H236) fun y237 H238 =>
     f5_L3 S C n m y216 y217 y218 y237 H238))))
   (S.b (C 8 [] H224) fun y239 H240 =>
    some (y239, H240))

theorem f5_L3_eq (S : Seam (Value × Heap)) (C : CallF) (n : Nat) : ∀ (m : Nat) (env : Env) (H : Heap), aloopK (acodeK S Tryd.prog C n 190 (cAt f5_c [1, 1, 1, 1, 1, 1, 1, 1, 1, 1, 1, 1, 1, 1, 0, 1, 0, 0])) m env H (kAt S Tryd.prog C n 190 f5_c [1, 1, 1, 1, 1, 1, 1, 1, 1, 1, 1, 1, 1, 1, 0, 1, 0] (fin Tryd.prog Tryd.f5)) = f5_L3 S C n m (env 12) (env 20) (env 22) (env 25) H := by
  intro m env H
  refine aloopK_eq (L := fun m env H => f5_L3 S C n m (env 12) (env 20) (env 22) (env 25) H) (fun env H => rfl) (fun m env H => ?_) m env H
  kernel_rfl


noncomputable def f5_L2 (S : Seam (Value × Heap)) (C : CallF) (n : Nat) : Nat → Value → Value → Value → Value → Value → Value → Heap → Option (Value × Heap)
 | 0, _, _, _, _, _, _, _ => none
 | m + 1, y191, y192, y193, y194, y195, y196, H197 =>
   S.b (up (lenS y192) H197) fun y198 H199 =>
   S.b (up (binB Tryd.prog .lss 3 y196 y198) H199) fun y200 H201 =>
   S.i y200
   (S.b (up (iAddrS 1 y192 y196) H201) fun y202 H203 =>
    S.c true (S.b (ldC y202 H203) fun y204 H205 =>
    S.b (up (binB Tryd.prog .add 3 y204 y191) H205) fun y206 H207 =>
    S.b (up (iAddrS 1 y193 y196) H207) fun y208 H209 =>
    S.c true (S.b (ldC y208 H209) fun y210 H211 =>
    S.b (up (binB Tryd.prog .neq 3 y206 y210) H211) fun y212 H213 =>
    S.i y212
    (some ((.bool false), H213))
    (S.b (up (binB Tryd.prog .add 3 y196 (.int .i64 1)) H213) fun y214 H215 =>
     f5_L2 S C n m y191 y192 y193 y194 y195 y214 H215))))
   (f5_L3 S C n n y191 y194 y195 (.int .i64 0) H201)

noncomputable def f5_L2G (S : Seam (Value × Heap)) (C : CallF) (n : Nat) (R2 : Value→Value→Value→Value→Value→Value→Heap→Option (Value × Heap)) (P3 : Env → Heap → Option (Value × Heap)) (env : Env) (H : Heap) : Option (Value × Heap) :=
 S.b (up (lenS (env 14)) H) fun y241 H242 =>
 S.b (up (binB Tryd.prog .lss 3 (env 24) y241) H242) fun y243 H244 =>
 S.i y243
 (S.b (up (iAddrS 1 (env 14) (env 24)) H244) fun y245 H246 =>
  S.c true (S.b (ldC y245 H246) fun y247 H248 =>
  S.b (up (binB Tryd.prog .add 3 y247 (env 12)) H248) fun y249 H250 =>
  S.b (up (iAddrS 1 (env 17) (env 24)) H250) fun y251 H252 =>
  S.c true (S.b (ldC y251 H252) fun y253 H254 =>
  S.b (up (binB Tryd.prog .neq 3 y249 y253) H254) fun y255 H256 =>
  S.i y255
  (some ((.bool false), H256))
  (S.b (up (binB Tryd.prog .add 3 (env 24) (.int .i64 1)) H256) fun y257 H258 =>
   R2 (env 12) (env 14) (env 17) (env 20) (env 22) y257 H258))))
 (P3 (putE 190 (putE 190 (putE 190 (putE 190 (putE 190 env (some 155) (env 24)) (some 156) (env 14)) (some 157) y241) (some 158) y243) (some 25) (.int .i64 0)) H244)

theorem f5_L2_eq (S : Seam (Value × Heap)) (C : CallF) (n : Nat) : ∀ (m : Nat) (env : Env) (H : Heap), aloopK (acodeK S Tryd.prog C n 190 (cAt f5_c [1, 1, 1, 1, 1, 1, 1, 1, 1, 1, 1, 1, 1, 0, 1, 0, 0])) m env H (kAt S Tryd.prog C n 190 f5_c [1, 1, 1, 1, 1, 1, 1, 1, 1, 1, 1, 1, 1, 0, 1, 0] (fin Tryd.prog Tryd.f5)) = f5_L2 S C n m (env 12) (env 14) (env 17) (env 20) (env 22) (env 24) H := by
  intro m env H
  refine aloopK_eq (L := fun m env H => f5_L2 S C n m (env 12) (env 14) (env 17) (env 20) (env 22) (env 24) H) (fun env H => rfl) (fun m env H => ?_) m env H
  have h1 : acodeK S Tryd.prog C n 190 (cAt f5_c [1, 1, 1, 1, 1, 1, 1, 1, 1, 1, 1, 1, 1, 0, 1, 0, 0]) env H (onNormal (fun env' H' => f5_L2 S C n m (env' 12) (env' 14) (env' 17) (env' 20) (env' 22) (env' 24) H') (kAt S Tryd.prog C n 190 f5_c [1, 1, 1, 1, 1, 1, 1, 1, 1, 1, 1, 1, 1, 0, 1, 0] (fin Tryd.prog Tryd.f5))) = f5_L2G S C n (f5_L2 S C n m) (fun env H => aloopK (acodeK S Tryd.prog C n 190 (cAt f5_c [1, 1, 1, 1, 1, 1, 1, 1, 1, 1, 1, 1, 1, 1, 0, 1, 0, 0])) n env H (kAt S Tryd.prog C n 190 f5_c [1, 1, 1, 1, 1, 1, 1, 1, 1, 1, 1, 1, 1, 1, 0, 1, 0] (fin Tryd.prog Tryd.f5))) env H := by kernel_rfl
  have e0 : (fun env H => aloopK (acodeK S Tryd.prog C n 190 (cAt f5_c [1, 1, 1, 1, 1, 1, 1, 1, 1, 1, 1, 1, 1, 1, 0, 1, 0, 0])) n env H (kAt S Tryd.prog C n 190 f5_c [1, 1, 1, 1, 1, 1, 1, 1, 1, 1, 1, 1, 1, 1, 0, 1, 0] (fin Tryd.prog Tryd.f5))) = (fun env H => f5_L3 S C n n (env 12) (env 20) (env 22) (env 25) H) := by funext env H; exact f5_L3_eq S C n n env H
  rw [e0] at h1
  exact h1.trans (by kernel_rfl)


noncomputable def f5_L0 (S : Seam (Value × Heap)) (C : CallF) (n : Nat) : Nat → Value → Value → Value → Value → Value → Heap → Option (Value × Heap)
 | 0, _, _, _, _, _, _ => none
 | m + 1, y9, y10, y11, y12, y13, H14 =>
   S.b (up (lenS y10) H14) fun y15 H16 =>
   S.b (up (binB Tryd.prog .lss 3 y13 y15) H16) fun y17 H18 =>
   S.b (gd (wd y17 true) (some (y13, H18)) H18) fun y19 H20 =>
   S.b (gd (wd y17 true) (up (binB Tryd.prog .lss 3 y19 (.int .i64 20)) H20) H20) fun y21 H22 =>
   S.b (pickV y17 y21 (.bool false) H22) fun y23 H24 =>
   S.i y23
   (S.b (C 14 [y13] H24) fun y25 H26 =>
    S.b (up (binB Tryd.prog .add 9 (.string ⟨#[103]⟩) y25) H26) fun y27 H28 =>
    S.b (bld [(.string ⟨#[]⟩), (.slice none 0 0)] [(0, 1, y27)] H28) fun y29 H30 =>
    S.b (newV [(.string ⟨#[]⟩), (.slice none 0 0)] H30) fun y31 H32 =>
    S.b (stV 2 y31 y29 H32) fun _ H33 =>
    f5_L1 S C n (f5_L0 S C n m) n y9 y10 y11 y12 y13 y31 (.int .i64 0) H33)
   (S.b (up (lenS y12) H24) fun y107 H108 =>
    S.b (app 2 40 y12 y11 H108) fun y109 H110 =>
    S.b (up (lenS y11) H110) fun y111 H112 =>
    S.b (C 9 [y9, y111] H112) fun y113 H114 =>
    S.b (up (iAddrS 2 y11 y113) H114) fun y115 H116 =>
    S.b (up (fAddr 0 y115) H116) fun y117 H118 =>
    S.b (ldC y117 H118) fun y119 H120 =>
    S.b (C 10 [y119, y11] H120) fun y121 H122 =>
    S.b (extr 0 y121 H122) fun y123 H124 =>
    S.b (extr 1 y121 H124) fun y125 H126 =>
    S.b (extr 2 y121 H126) fun y127 H128 =>
    S.b (C 10 [y119, y109] H128) fun y129 H130 =>
    S.b (extr 0 y129 H130) fun y131 H132 =>
    S.b (extr 1 y129 H132) fun y133 H134 =>
    S.b (extr 2 y129 H134) fun y135 H136 =>
    S.b (C 11 [y119, y11] H136) fun y137 H138 =>
    S.b (extr 0 y137 H138) fun y139 H140 =>
    S.b (extr 1 y137 H140) fun y141 H142 =>
    S.b (C 11 [y119, y109] H142) fun y143 H144 =>
    S.b (extr 0 y143 H144) fun y145 H146 =>
    S.b (extr 1 y143 H146) fun y147 H148 =>
    S.b (up (binB Tryd.prog .neq 28 y127 y135) H148) fun y149 H150 =>
    S.b (gd (wd y149 false) (some (y125, H150)) H150) fun y151 H152 =>
    S.b (gd (wd y149 false) (some (y133, H152)) H152) fun y153 H154 =>
    S.b (gd (wd y149 false) (up (binB Tryd.prog .neq 9 y151 y153) H154) H154) fun y155 H156 =>
    S.b (pickV y149 (.bool true) y155 H156) fun y157 H158 =>
    S.b (gd (wd y157 false) (some (y141, H158)) H158) fun y159 H160 =>
    S.b (gd (wd y157 false) (some (y147, H160)) H160) fun y161 H162 =>
    S.b (gd (wd y157 false) (up (binB Tryd.prog .neq 28 y159 y161) H162) H162) fun y163 H164 =>
    S.b (pickV y157 (.bool true) y163 H164) fun y165 H166 =>
    S.b (gd (wd y165 false) (some (y123, H166)) H166) fun y167 H168 =>
    S.b (gd (wd y165 false) (up (lenS y167) H168) H168) fun y169 H170 =>
    S.b (gd (wd y165 false) (some (y131, H170)) H170) fun y171 H172 =>
    S.b (gd (wd y165 false) (up (lenS y171) H172) H172) fun y173 H174 =>
    S.b (gd (wd y165 false) (up (binB Tryd.prog .neq 3 y169 y173) H174) H174) fun y175 H176 =>
    S.b (pickV y165 (.bool true) y175 H176) fun y177 H178 =>
    S.b (gd (wd y177 false) (some (y139, H178)) H178) fun y179 H180 =>
    S.b (gd (wd y177 false) (up (lenS y179) H180) H180) fun y181 H182 =>
    S.b (gd (wd y177 false) (some (y145, H182)) H182) fun y183 H184 =>
    S.b (gd (wd y177 false) (up (lenS y183) H184) H184) fun y185 H186 =>
    S.b (gd (wd y177 false) (up (binB Tryd.prog .neq 3 y181 y185) H186) H186) fun y187 H188 =>
    S.b (pickV y177 (.bool true) y187 H188) fun y189 H190 =>
    S.i y189
    (some ((.bool false), H190))
    (f5_L2 S C n n y107 y123 y131 y139 y145 (.int .i64 0) H190))

noncomputable def f5_L0G (S : Seam (Value × Heap)) (C : CallF) (n : Nat) (R0 : Value→Value→Value→Value→Value→Heap→Option (Value × Heap)) (P1 : Env → Heap → Option (Value × Heap)) (P2 : Env → Heap → Option (Value × Heap)) (env : Env) (H : Heap) : Option (Value × Heap) :=
 S.b (up (lenS (env 2)) H) fun y259 H260 =>
 S.b (up (binB Tryd.prog .lss 3 (env 9) y259) H260) fun y261 H262 =>
 S.b (gd (wd y261 true) (some ((env 9), H262)) H262) fun y263 H264 =>
 S.b (gd (wd y261 true) (up (binB Tryd.prog .lss 3 y263 (.int .i64 20)) H264) H264) fun y265 H266 =>
 S.b (pickV y261 y265 (.bool false) H266) fun y267 H268 =>
 S.i y267
 (S.b (C 14 [(env 9)] H268) fun y269 H270 =>
  S.b (up (binB Tryd.prog .add 9 (.string ⟨#[103]⟩) y269) H270) fun y271 H272 =>
  S.b (bld [(.string ⟨#[]⟩), (.slice none 0 0)] [(0, 1, y271)] H272) fun y273 H274 =>
  S.b (newV [(.string ⟨#[]⟩), (.slice none 0 0)] H274) fun y275 H276 =>
  S.b (stV 2 y275 y273 H276) fun u277 H278 =>
  P1 (putE 190 (putE 190 (putE 190 (putE 190 (putE 190 (putE 190 (putE 190 (putE 190 (putE 190 (putE 190 (putE 190 (putE 190 (putE 190 (putE 190 (putE 190 env (some 32) (env 9)) (some 33) (env 2)) (some 34) y259) (some 35) y261) (some 36) y261) (some 37) y263) (some 38) y265) (some 39) y267) (some 42) (env 9)) (some 43) y269) (some 44) y271) (some 45) y273) (some 10) y275) none u277) (some 11) (.int .i64 0)) H278)
 (S.b (up (lenS (env 8)) H268) fun y279 H280 =>
  S.b (app 2 40 (env 8) (env 7) H280) fun y281 H282 =>
  S.b (up (lenS (env 7)) H282) fun y283 H284 =>
  S.b (C 9 [(env 1), y283] H284) fun y285 H286 =>
  S.b (up (iAddrS 2 (env 7) y285) H286) fun y287 H288 =>
  S.b (up (fAddr 0 y287) H288) fun y289 H290 =>
  S.b (ldC y289 H290) fun y291 H292 =>
  S.b (C 10 [y291, (env 7)] H292) fun y293 H294 =>
  S.b (extr 0 y293 H294) fun y295 H296 =>
  S.b (extr 1 y293 H296) fun y297 H298 =>
  S.b (extr 2 y293 H298) fun y299 H300 =>
  S.b (C 10 [y291, y281] H300) fun y301 H302 =>
  S.b (extr 0 y301 H302) fun y303 H304 =>
  S.b (extr 1 y301 H304) fun y305 H306 =>
  S.b (extr 2 y301 H306) fun y307 H308 =>
  S.b (C 11 [y291, (env 7)] H308) fun y309 H310 =>
  S.b (extr 0 y309 H310) fun y311 H312 =>
  S.b (extr 1 y309 H312) fun y313 H314 =>
  S.b (C 11 [y291, y281] H314) fun y315 H316 =>
  S.b (extr 0 y315 H316) fun y317 H318 =>
  S.b (extr 1 y315 H318) fun y319 H320 =>
  S.b (up (binB Tryd.prog .neq 28 y299 y307) H320) fun y321 H322 =>
  S.b (gd (wd y321 false) (some (y297, H322)) H322) fun y323 H324 =>
  S.b (gd (wd y321 false) (some (y305, H324)) H324) fun y325 H326 =>
  S.b (gd (wd y321 false) (up (binB Tryd.prog .neq 9 y323 y325) H326) H326) fun y327 H328 =>
  S.b (pickV y321 (.bool true) y327 H328) fun y329 H330 =>
  S.b (gd (wd y329 false) (some (y313, H330)) H330) fun y331 H332 =>
  S.b (gd (wd y329 false) (some (y319, H332)) H332) fun y333 H334 =>
  S.b (gd (wd y329 false) (up (binB Tryd.prog .neq 28 y331 y333) H334) H334) fun y335 H336 =>
  S.b (pickV y329 (.bool true) y335 H336) fun y337 H338 =>
  S.b (gd (wd y337 false) (some (y295, H338)) H338) fun y339 H340 =>
  S.b (gd (wd y337 false) (up (lenS y339) H340) H340) fun y341 H342 =>
  S.b (gd (wd y337 false) (some (y303, H342)) H342) fun y343 H344 =>
  S.b (gd (wd y337 false) (up (lenS y343) H344) H344) fun y345 H346 =>
  S.b (gd (wd y337 false) (up (binB Tryd.prog .neq 3 y341 y345) H346) H346) fun y347 H348 =>
  S.b (pickV y337 (.bool true) y347 H348) fun y349 H350 =>
  S.b (gd (wd y349 false) (some (y311, H350)) H350) fun y351 H352 =>
  S.b (gd (wd y349 false) (up (lenS y351) H352) H352) fun y353 H354 =>
  S.b (gd (wd y349 false) (some (y317, H354)) H354) fun y355 H356 =>
  S.b (gd (wd y349 false) (up (lenS y355) H356) H356) fun y357 H358 =>
  S.b (gd (wd y349 false) (up (binB Tryd.prog .neq 3 y353 y357) H358) H358) fun y359 H360 =>
  S.b (pickV y349 (.bool true) y359 H360) fun y361 H362 =>
  S.i y361
  (some ((.bool false), H362))
  (P2 (putE 190 (putE 190 (putE 190 (putE 190 (putE 190 (putE 190 (putE 190 (putE 190 (putE 190 (putE 190 (putE 190 (putE 190 (putE 190 (putE 190 (putE 190 (putE 190 (putE 190 (putE 190 (putE 190 (putE 190 (putE 190 (putE 190 (putE 190 (putE 190 (putE 190 (putE 190 (putE 190 (putE 190 (putE 190 (putE 190 (putE 190 (putE 190 (putE 190 (putE 190 (putE 190 (putE 190 (putE 190 (putE 190 (putE 190 (putE 190 (putE 190 (putE 190 (putE 190 (putE 190 (putE 190 (putE 190 (putE 190 (putE 190 (putE 190 (putE 190 (putE 190 (putE 190 (putE 190 (putE 190 (putE 190 (putE 190 (putE 190 (putE 190 (putE 190 (putE 190 (putE 190 (putE 190 (putE 190 (putE 190 (putE 190 (putE 190 (putE 190 (putE 190 (putE 190 (putE 190 (putE 190 (putE 190 (putE 190 (putE 190 (putE 190 (putE 190 (putE 190 (putE 190 (putE 190 (putE 190 (putE 190 (putE 190 (putE 190 (putE 190 (putE 190 (putE 190 (putE 190 (putE 190 env (some 32) (env 9)) (some 33) (env 2)) (some 34) y259) (some 35) y261) (some 36) y261) (some 37) y263) (some 38) y265) (some 39) y267) (some 89) (env 8)) (some 90) y279) (some 12) y279) (some 91) (env 8)) (some 92) (env 7)) (some 93) y281) (some 8) y281) (some 94) (env 7)) (some 95) (env 1)) (some 96) (env 7)) (some 97) y283) (some 98) y285) (some 99) y287) (some 100) y289) (some 101) y291) (some 13) y291) (some 103) y291) (some 104) (env 7)) (some 105) y293) (some 102) y293) (some 106) y295) (some 107) y297) (some 108) y299) (some 14) y295) (some 15) y297) (some 16) y299) (some 110) y291) (some 111) y281) (some 112) y301) (some 109) y301) (some 113) y303) (some 114) y305) (some 115) y307) (some 17) y303) (some 18) y305) (some 19) y307) (some 117) y291) (some 118) (env 7)) (some 119) y309) (some 116) y309) (some 120) y311) (some 121) y313) (some 20) y311) (some 21) y313) (some 123) y291) (some 124) y281) (some 125) y315) (some 122) y315) (some 126) y317) (some 127) y319) (some 22) y317) (some 23) y319) (some 128) y299) (some 129) y307) (some 130) y321) (some 131) y321) (some 132) y323) (some 133) y325) (some 134) y327) (some 135) y329) (some 136) y329) (some 137) y331) (some 138) y333) (some 139) y335) (some 140) y337) (some 141) y337) (some 142) y339) (some 143) y341) (some 144) y343) (some 145) y345) (some 146) y347) (some 147) y349) (some 148) y349) (some 149) y351) (some 150) y353) (some 151) y355) (some 152) y357) (some 153) y359) (some 154) y361) (some 24) (.int .i64 0)) H362))

theorem f5_L0_eq (S : Seam (Value × Heap)) (C : CallF) (n : Nat) : ∀ (m : Nat) (env : Env) (H : Heap), aloopK (acodeK S Tryd.prog C n 190 (cAt f5_c [1, 1, 1, 1, 0, 1, 0, 0])) m env H (kAt S Tryd.prog C n 190 f5_c [1, 1, 1, 1, 0, 1, 0] (fin Tryd.prog Tryd.f5)) = f5_L0 S C n m (env 1) (env 2) (env 7) (env 8) (env 9) H := by
  intro m env H
  refine aloopK_eq (L := fun m env H => f5_L0 S C n m (env 1) (env 2) (env 7) (env 8) (env 9) H) (fun env H => rfl) (fun m env H => ?_) m env H
  have h1 : acodeK S Tryd.prog C n 190 (cAt f5_c [1, 1, 1, 1, 0, 1, 0, 0]) env H (onNormal (fun env' H' => f5_L0 S C n m (env' 1) (env' 2) (env' 7) (env' 8) (env' 9) H') (kAt S Tryd.prog C n 190 f5_c [1, 1, 1, 1, 0, 1, 0] (fin Tryd.prog Tryd.f5))) = f5_L0G S C n (f5_L0 S C n m) (fun env H => aloopK (acodeK S Tryd.prog C n 190 (cAt f5_c [1, 1, 1, 1, 0, 1, 0, 0, 1, 0, 0, 1, 0, 1, 0, 0])) n env H (kAt S Tryd.prog C n 190 (cAt f5_c [1, 1, 1, 1, 0, 1, 0, 0]) [1, 0, 0, 1, 0, 1, 0] (onNormal (fun env' H' => (f5_L0 S C n m) (env' 1) (env' 2) (env' 7) (env' 8) (env' 9) H') (kAt S Tryd.prog C n 190 f5_c [1, 1, 1, 1, 0, 1, 0] (fin Tryd.prog Tryd.f5))))) (fun env H => aloopK (acodeK S Tryd.prog C n 190 (cAt f5_c [1, 1, 1, 1, 1, 1, 1, 1, 1, 1, 1, 1, 1, 0, 1, 0, 0])) n env H (kAt S Tryd.prog C n 190 f5_c [1, 1, 1, 1, 1, 1, 1, 1, 1, 1, 1, 1, 1, 0, 1, 0] (fin Tryd.prog Tryd.f5))) env H := by kernel_rfl
  have e0 : (fun env H => aloopK (acodeK S Tryd.prog C n 190 (cAt f5_c [1, 1, 1, 1, 0, 1, 0, 0, 1, 0, 0, 1, 0, 1, 0, 0])) n env H (kAt S Tryd.prog C n 190 (cAt f5_c [1, 1, 1, 1, 0, 1, 0, 0]) [1, 0, 0, 1, 0, 1, 0] (onNormal (fun env' H' => (f5_L0 S C n m) (env' 1) (env' 2) (env' 7) (env' 8) (env' 9) H') (kAt S Tryd.prog C n 190 f5_c [1, 1, 1, 1, 0, 1, 0] (fin Tryd.prog Tryd.f5))))) = (fun env H => f5_L1 S C n (f5_L0 S C n m) n (env 1) (env 2) (env 7) (env 8) (env 9) (env 10) (env 11) H) := by funext env H; exact f5_L1_eq S C n (f5_L0 S C n m) n env H
  have e1 : (fun env H => aloopK (acodeK S Tryd.prog C n 190 (cAt f5_c [1, 1, 1, 1, 1, 1, 1, 1, 1, 1, 1, 1, 1, 0, 1, 0, 0])) n env H (kAt S Tryd.prog C n 190 f5_c [1, 1, 1, 1, 1, 1, 1, 1, 1, 1, 1, 1, 1, 0, 1, 0] (fin Tryd.prog Tryd.f5))) = (fun env H => f5_L2 S C n n (env 12) (env 14) (env 17) (env 20) (env 22) (env 24) H) := by funext env H; exact f5_L2_eq S C n n env H
  rw [e0, e1] at h1
  exact h1.trans (by kernel_rfl)


noncomputable def f5 (S : Seam (Value × Heap)) (C : CallF) (n : Nat) (x0 : Value) (x1 : Value) (x2 : Value) (H : Heap) : Option (Value × Heap) :=
 S.b (C 7 [x0] H) fun y1 H2 =>
 S.b (up (lenS y1) H2) fun y3 H4 =>
 S.b (up (binB Tryd.prog .eql 3 y3 (.int .i64 0)) H4) fun y5 H6 =>
 S.i y5
 (S.b (C 8 [] H6) fun y7 H8 =>
  some (y7, H8))
 (f5_L0 S C n n x1 x2 y1 (.slice none 0 0) (.int .i64 0) H6)

noncomputable def f5G (S : Seam (Value × Heap)) (C : CallF) (n : Nat) (P0 : Env → Heap → Option (Value × Heap)) (x0 : Value) (x1 : Value) (x2 : Value) (H : Heap) : Option (Value × Heap) :=
 S.b (C 7 [x0] H) fun y363 H364 =>
 S.b (up (lenS y363) H364) fun y365 H366 =>
 S.b (up (binB Tryd.prog .eql 3 y365 (.int .i64 0)) H366) fun y367 H368 =>
 S.i y367
 (S.b (C 8 [] H368) fun y369 H370 =>
  some (y369, H370))
 (P0 (putE 190 (putE 190 (putE 190 (putE 190 (putE 190 (putE 190 (putE 190 (putE 190 (putE 190 (env0 [x0, x1, x2]) (some 6) (.bool false)) (some 26) x0) (some 27) y363) (some 7) y363) (some 28) y363) (some 29) y365) (some 30) y367) (some 8) (.slice none 0 0)) (some 9) (.int .i64 0)) H368)

theorem f5_main (S : Seam (Value × Heap)) (C : CallF) (n : Nat) (x0 : Value) (x1 : Value) (x2 : Value) (H : Heap) : acodeK S Tryd.prog C n 190 f5_c (env0 [x0, x1, x2]) H (fin Tryd.prog Tryd.f5) = f5 S C n x0 x1 x2 H := by
  have h1 : acodeK S Tryd.prog C n 190 f5_c (env0 [x0, x1, x2]) H (fin Tryd.prog Tryd.f5) = f5G S C n (fun env H => aloopK (acodeK S Tryd.prog C n 190 (cAt f5_c [1, 1, 1, 1, 0, 1, 0, 0])) n env H (kAt S Tryd.prog C n 190 f5_c [1, 1, 1, 1, 0, 1, 0] (fin Tryd.prog Tryd.f5))) x0 x1 x2 H := by kernel_rfl
  have e0 : (fun env H => aloopK (acodeK S Tryd.prog C n 190 (cAt f5_c [1, 1, 1, 1, 0, 1, 0, 0])) n env H (kAt S Tryd.prog C n 190 f5_c [1, 1, 1, 1, 0, 1, 0] (fin Tryd.prog Tryd.f5))) = (fun env H => f5_L0 S C n n (env 1) (env 2) (env 7) (env 8) (env 9) H) := by funext env H; exact f5_L0_eq S C n n env H
  rw [e0] at h1
  exact h1.trans (by kernel_rfl)


theorem f5_eq {gl : Bool} {E : Ext} (hE : E 5 = none) (n : Nat) (x0 : Value) (x1 : Value) (x2 : Value) (H : Heap) : acall Tryd.prog gl E (n + 1) 5 [x0, x1, x2] H = f5 real (acall Tryd.prog gl E n) n x0 x1 x2 H :=
  (acall_eq (N := 190) Tryd.func5 (by kernel_rfl) (by kernel_rfl) hE (okgl f5_c (by kernel_rfl)) (by kernel_rfl)).trans (f5_main real _ n x0 x1 x2 H)

/-! incunable/incunablelaw16.ImportsKnown -/
noncomputable def f6_c : Code := (Tryd.f6.body).getD .skip

noncomputable def f6_L0 (S : Seam (Value × Heap)) (C : CallF) (n : Nat) : Nat → Value → Value → Value → Heap → Option (Value × Heap)
 | 0, _, _, _, _ => none
 | m + 1, y189, y190, y191, H192 =>
   S.b (up (lenS y190) H192) fun y193 H194 =>
   S.b (up (binB Tryd.prog .lss 3 y191 y193) H194) fun y195 H196 =>
   S.i y195
   (S.b (up (iAddrS 2 y190 y191) H196) fun y197 H198 =>
    S.b (up (fAddr 0 y197) H198) fun y199 H200 =>
    S.c true (S.b (ldC y199 H200) fun y201 H202 =>
    S.b (C 16 [y201, y190] H202) fun y203 H204 =>
    S.c true (S.b (up (unB .not y203) H204) fun y205 H206 =>
     S.b (gd (wd y205 false) (some (y190, H206)) H206) fun y207 H208 =>
     S.b (gd (wd y205 false) (some (y191, H208)) H208) fun y209 H210 =>
     S.b (gd (wd y205 false) (up (iAddrS 2 y207 y209) H210) H210) fun y211 H212 =>
     S.b (gd (wd y205 false) (up (fAddr 0 y211) H212) H212) fun y213 H214 =>
     S.c (!(wd y205 false) || true) (S.b (gd (wd y205 false) (ldC y213 H214) H214) fun y215 H216 =>
     S.b (gd (wd y205 false) (some (y190, H216)) H216) fun y217 H218 =>
     S.b (gd (wd y205 false) (C 17 [y215, y217] H218) H218) fun y219 H220 =>
     S.c (!(wd y205 false) || true) (S.b (gd (wd y205 false) (up (unB .not y219) H220) H220) fun y221 H222 =>
      S.b (pickV y205 (.bool true) y221 H222) fun y223 H224 =>
      S.b (gd (wd y223 false) (some (y190, H224)) H224) fun y225 H226 =>
      S.b (gd (wd y223 false) (some (y191, H226)) H226) fun y227 H228 =>
      S.b (gd (wd y223 false) (up (iAddrS 2 y225 y227) H228) H228) fun y229 H230 =>
      S.b (gd (wd y223 false) (up (fAddr 0 y229) H230) H230) fun y231 H232 =>
      S.c (!(wd y223 false) || true) (S.b (gd (wd y223 false) (ldC y231 H232) H232) fun y233 H234 =>
      S.b (gd (wd y223 false) (some (y190, H234)) H234) fun y235 H236 =>
      S.b (gd (wd y223 false) (some (y191, H236)) H236) fun y237 H238 =>
      S.b (gd (wd y223 false) (up (slcS 2 y235 (some y237) none none) H238) H238) fun y239 H240 =>
      S.b (gd (wd y223 false) (C 16 [y233, y239] H240) H240) fun y241 H242 =>
      S.c (!(wd y223 false) || true) (S.b (gd (wd y223 false) (up (unB .not y241) H242) H242) fun y243 H244 =>
       S.b (pickV y223 (.bool true) y243 H244) fun y245 H246 =>
       S.b (gd (wd y245 false) (some (y190, H246)) H246) fun y247 H248 =>
       S.b (gd (wd y245 false) (some (y191, H248)) H248) fun y249 H250 =>
       S.b (gd (wd y245 false) (up (iAddrS 2 y247 y249) H250) H250) fun y251 H252 =>
       S.b (gd (wd y245 false) (up (fAddr 0 y251) H252) H252) fun y253 H254 =>
       S.c (!(wd y245 false) || true) (S.b (gd (wd y245 false) (ldC y253 H254) H254) fun y255 H256 =>
       S.b (gd (wd y245 false) (some (y190, H256)) H256) fun y257 H258 =>
       S.b (gd (wd y245 false) (some (y191, H258)) H258) fun y259 H260 =>
       S.b (gd (wd y245 false) (up (slcS 2 y257 none (some y259) none) H260) H260) fun y261 H262 =>
       S.b (gd (wd y245 false) (C 17 [y255, y261] H262) H262) fun y263 H264 =>
       S.c (!(wd y245 false) || true) (S.b (gd (wd y245 false) (up (unB .not y263) H264) H264) fun y265 H266 =>
        S.b (pickV y245 (.bool true) y265 H266) fun y267 H268 =>
        S.i y267
        (some ((.bool false), H268))
        (S.b (up (binB Tryd.prog .add 3 y191 (.int .i64 1)) H268) fun y269 H270 =>
         f6_L0 S C n m y189 y190 y269 H270))))))))))
   (S.b (gd (wd (.bool true) true) (C 8 [] H196) H196) fun y271 H272 =>
    S.b (pickV (.bool true) y271 (.bool false) H272) fun y273 H274 =>
    S.b (gd (wd y273 true) (some (y189, H274)) H274) fun y275 H276 =>
    S.b (pickV y273 y275 (.bool false) H276) fun y277 H278 =>
    S.b (gd (wd y277 true) (C 16 [(.string ⟨#[122]⟩), (.slice none 0 0)] H278) H278) fun y279 H280 =>
    S.b (pickV y277 y279 (.bool false) H280) fun y281 H282 =>
    S.b (gd (wd y281 true) (C 17 [(.string ⟨#[122]⟩), (.slice none 0 0)] H282) H282) fun y283 H284 =>
    S.b (pickV y281 y283 (.bool false) H284) fun y285 H286 =>
    some (y285, H286))

theorem f6_L0_eq (S : Seam (Value × Heap)) (C : CallF) (n : Nat) : ∀ (m : Nat) (env : Env) (H : Heap), aloopK (acodeK S Tryd.prog C n 202 (cAt f6_c [1, 1, 1, 1, 1, 1, 1, 1, 1, 1, 1, 1, 0, 1, 0, 0])) m env H (kAt S Tryd.prog C n 202 f6_c [1, 1, 1, 1, 1, 1, 1, 1, 1, 1, 1, 1, 0, 1, 0] (fin Tryd.prog Tryd.f6)) = f6_L0 S C n m (env 23) (env 24) (env 25) H := by
  intro m env H
  refine aloopK_eq (L := fun m env H => f6_L0 S C n m (env 23) (env 24) (env 25) H) (fun env H => rfl) (fun m env H => ?_) m env H
  kernel_rfl


noncomputable def f6 (S : Seam (Value × Heap)) (C : CallF) (n : Nat) (H : Heap) : Option (Value × Heap) :=
 S.b (C 15 [(.int .i64 32)] H) fun y1 H2 =>
 S.b (C 10 [(.string ⟨#[48]⟩), y1] H2) fun y3 H4 =>
 S.b (extr 0 y3 H4) fun y5 H6 =>
 S.b (extr 1 y3 H6) fun y7 H8 =>
 S.b (extr 2 y3 H8) fun y9 H10 =>
 S.b (C 15 [(.int .i64 33)] H10) fun y11 H12 =>
 S.b (C 10 [(.string ⟨#[48]⟩), y11] H12) fun y13 H14 =>
 S.b (extr 0 y13 H14) fun y15 H16 =>
 S.b (extr 1 y13 H16) fun y17 H18 =>
 S.b (extr 2 y13 H18) fun y19 H20 =>
 S.b (C 15 [(.int .i64 33)] H20) fun y21 H22 =>
 S.b (C 10 [(.string ⟨#[49]⟩), y21] H22) fun y23 H24 =>
 S.b (extr 0 y23 H24) fun y25 H26 =>
 S.b (extr 1 y23 H26) fun y27 H28 =>
 S.b (extr 2 y23 H28) fun y29 H30 =>
 S.b (C 15 [(.int .i64 1001)] H30) fun y31 H32 =>
 S.b (C 11 [(.string ⟨#[48]⟩), y31] H32) fun y33 H34 =>
 S.b (extr 0 y33 H34) fun y35 H36 =>
 S.b (extr 1 y33 H36) fun y37 H38 =>
 S.b (C 15 [(.int .i64 1000)] H38) fun y39 H40 =>
 S.b (C 11 [(.string ⟨#[48]⟩), y39] H40) fun y41 H42 =>
 S.b (extr 0 y41 H42) fun y43 H44 =>
 S.b (extr 1 y41 H44) fun y45 H46 =>
 S.b (C 15 [(.int .i64 1001)] H46) fun y47 H48 =>
 S.b (C 10 [(.string ⟨#[48]⟩), y47] H48) fun y49 H50 =>
 S.b (extr 0 y49 H50) fun y51 H52 =>
 S.b (extr 1 y49 H52) fun y53 H54 =>
 S.b (extr 2 y49 H54) fun y55 H56 =>
 S.b (C 15 [(.int .i64 2)] H56) fun y57 H58 =>
 S.b (bld [(.string ⟨#[]⟩), (.slice none 0 0)] [(0, 1, (.string ⟨#[48]⟩))] H58) fun y59 H60 =>
 S.b (bldS 2 1 [(.string ⟨#[]⟩), (.slice none 0 0)] [(0, 2, y59)] H60) fun y61 H62 =>
 S.b (app 2 40 y57 y61 H62) fun y63 H64 =>
 S.b (C 10 [(.string ⟨#[48]⟩), y63] H64) fun y65 H66 =>
 S.b (extr 0 y65 H66) fun y67 H68 =>
 S.b (extr 1 y65 H68) fun y69 H70 =>
 S.b (extr 2 y65 H70) fun y71 H72 =>
 S.b (C 11 [(.string ⟨#[57]⟩), y63] H72) fun y73 H74 =>
 S.b (extr 0 y73 H74) fun y75 H76 =>
 S.b (extr 1 y73 H76) fun y77 H78 =>
 S.b (up (binB Tryd.prog .eql 28 y9 (.int .i64 0)) H78) fun y79 H80 =>
 S.b (gd (wd y79 true) (some (y5, H80)) H80) fun y81 H82 =>
 S.b (gd (wd y79 true) (up (lenS y81) H82) H82) fun y83 H84 =>
 S.b (gd (wd y79 true) (up (binB Tryd.prog .eql 3 y83 (.int .i64 32)) H84) H84) fun y85 H86 =>
 S.b (pickV y79 y85 (.bool false) H86) fun y87 H88 =>
 S.b (gd (wd y87 true) (some (y19, H88)) H88) fun y89 H90 =>
 S.b (gd (wd y87 true) (up (binB Tryd.prog .eql 28 y89 (.int .i64 5)) H90) H90) fun y91 H92 =>
 S.b (pickV y87 y91 (.bool false) H92) fun y93 H94 =>
 S.b (gd (wd y93 true) (some (y17, H94)) H94) fun y95 H96 =>
 S.b (gd (wd y93 true) (up (binB Tryd.prog .eql 9 y95 (.string ⟨#[51, 50]⟩)) H96) H96) fun y97 H98 =>
 S.b (pickV y93 y97 (.bool false) H98) fun y99 H100 =>
 S.b (gd (wd y99 true) (some (y29, H100)) H100) fun y101 H102 =>
 S.b (gd (wd y99 true) (up (binB Tryd.prog .eql 28 y101 (.int .i64 0)) H102) H102) fun y103 H104 =>
 S.b (pickV y99 y103 (.bool false) H104) fun y105 H106 =>
 S.b (gd (wd y105 true) (some (y25, H106)) H106) fun y107 H108 =>
 S.b (gd (wd y105 true) (up (lenS y107) H108) H108) fun y109 H110 =>
 S.b (gd (wd y105 true) (up (binB Tryd.prog .eql 3 y109 (.int .i64 32)) H110) H110) fun y111 H112 =>
 S.b (pickV y105 y111 (.bool false) H112) fun y113 H114 =>
 S.b (gd (wd y113 true) (some (y37, H114)) H114) fun y115 H116 =>
 S.b (gd (wd y113 true) (up (binB Tryd.prog .eql 28 y115 (.int .i64 5)) H116) H116) fun y117 H118 =>
 S.b (pickV y113 y117 (.bool false) H118) fun y119 H120 =>
 S.b (gd (wd y119 true) (some (y45, H120)) H120) fun y121 H122 =>
 S.b (gd (wd y119 true) (up (binB Tryd.prog .eql 28 y121 (.int .i64 0)) H122) H122) fun y123 H124 =>
 S.b (pickV y119 y123 (.bool false) H124) fun y125 H126 =>
 S.b (gd (wd y125 true) (some (y43, H126)) H126) fun y127 H128 =>
 S.b (gd (wd y125 true) (up (lenS y127) H128) H128) fun y129 H130 =>
 S.b (gd (wd y125 true) (up (binB Tryd.prog .eql 3 y129 (.int .i64 1000)) H130) H130) fun y131 H132 =>
 S.b (pickV y125 y131 (.bool false) H132) fun y133 H134 =>
 S.b (gd (wd y133 true) (some (y55, H134)) H134) fun y135 H136 =>
 S.b (gd (wd y133 true) (up (binB Tryd.prog .eql 28 y135 (.int .i64 5)) H136) H136) fun y137 H138 =>
 S.b (pickV y133 y137 (.bool false) H138) fun y139 H140 =>
 S.b (gd (wd y139 true) (some (y71, H140)) H140) fun y141 H142 =>
 S.b (gd (wd y139 true) (up (binB Tryd.prog .eql 28 y141 (.int .i64 2)) H142) H142) fun y143 H144 =>
 S.b (pickV y139 y143 (.bool false) H144) fun y145 H146 =>
 S.b (gd (wd y145 true) (some (y77, H146)) H146) fun y147 H148 =>
 S.b (gd (wd y145 true) (up (binB Tryd.prog .eql 28 y147 (.int .i64 2)) H148) H148) fun y149 H150 =>
 S.b (pickV y145 y149 (.bool false) H150) fun y151 H152 =>
 S.b (bldS 1 3 [(.string ⟨#[]⟩)] [(0, 1, (.string ⟨#[98]⟩)), (1, 1, (.string ⟨#[98]⟩)), (2, 1, (.string ⟨#[97]⟩))] H152) fun y153 H154 =>
 S.b (bld [(.string ⟨#[]⟩), (.slice none 0 0)] [(0, 1, (.string ⟨#[97]⟩)), (1, 1, y153)] H154) fun y155 H156 =>
 S.b (bldS 1 2 [(.string ⟨#[]⟩)] [(0, 1, (.string ⟨#[99]⟩)), (1, 1, (.string ⟨#[120]⟩))] H156) fun y157 H158 =>
 S.b (bld [(.string ⟨#[]⟩), (.slice none 0 0)] [(0, 1, (.string ⟨#[98]⟩)), (1, 1, y157)] H158) fun y159 H160 =>
 S.b (bldS 1 1 [(.string ⟨#[]⟩)] [(0, 1, (.string ⟨#[98]⟩))] H160) fun y161 H162 =>
 S.b (bld [(.string ⟨#[]⟩), (.slice none 0 0)] [(0, 1, (.string ⟨#[99]⟩)), (1, 1, y161)] H162) fun y163 H164 =>
 S.b (bldS 1 2 [(.string ⟨#[]⟩)] [(0, 1, (.string ⟨#[100]⟩)), (1, 1, (.string ⟨#[120]⟩))] H164) fun y165 H166 =>
 S.b (bld [(.string ⟨#[]⟩), (.slice none 0 0)] [(0, 1, (.string ⟨#[100]⟩)), (1, 1, y165)] H166) fun y167 H168 =>
 S.b (bldS 1 1 [(.string ⟨#[]⟩)] [(0, 1, (.string ⟨#[101]⟩))] H168) fun y169 H170 =>
 S.b (bld [(.string ⟨#[]⟩), (.slice none 0 0)] [(0, 1, (.string ⟨#[]⟩)), (1, 1, y169)] H170) fun y171 H172 =>
 S.b (bldS 1 1 [(.string ⟨#[]⟩)] [(0, 1, (.string ⟨#[]⟩))] H172) fun y173 H174 =>
 S.b (bld [(.string ⟨#[]⟩), (.slice none 0 0)] [(0, 1, (.string ⟨#[101]⟩)), (1, 1, y173)] H174) fun y175 H176 =>
 S.b (bldS 1 3 [(.string ⟨#[]⟩)] [(0, 1, (.string ⟨#[105]⟩)), (1, 1, (.string ⟨#[106]⟩)), (2, 1, (.string ⟨#[105]⟩))] H176) fun y177 H178 =>
 S.b (bld [(.string ⟨#[]⟩), (.slice none 0 0)] [(0, 1, (.string ⟨#[104]⟩)), (1, 1, y177)] H178) fun y179 H180 =>
 S.b (bldS 1 1 [(.string ⟨#[]⟩)] [(0, 1, (.string ⟨#[106]⟩))] H180) fun y181 H182 =>
 S.b (bld [(.string ⟨#[]⟩), (.slice none 0 0)] [(0, 1, (.string ⟨#[105]⟩)), (1, 1, y181)] H182) fun y183 H184 =>
 S.b (bld [(.string ⟨#[]⟩), (.slice none 0 0)] [(0, 1, (.string ⟨#[106]⟩))] H184) fun y185 H186 =>
 S.b (bldS 2 9 [(.string ⟨#[]⟩), (.slice none 0 0)] [(0, 2, y155), (2, 2, y159), (4, 2, y163), (6, 2, y167), (8, 2, y171), (10, 2, y175), (12, 2, y179), (14, 2, y183), (16, 2, y185)] H186) fun y187 H188 =>
 f6_L0 S C n n y151 y187 (.int .i64 0) H188

noncomputable def f6G (S : Seam (Value × Heap)) (C : CallF) (n : Nat) (P0 : Env → Heap → Option (Value × Heap)) (H : Heap) : Option (Value × Heap) :=
 S.b (C 15 [(.int .i64 32)] H) fun y287 H288 =>
 S.b (C 10 [(.string ⟨#[48]⟩), y287] H288) fun y289 H290 =>
 S.b (extr 0 y289 H290) fun y291 H292 =>
 S.b (extr 1 y289 H292) fun y293 H294 =>
 S.b (extr 2 y289 H294) fun y295 H296 =>
 S.b (C 15 [(.int .i64 33)] H296) fun y297 H298 =>
 S.b (C 10 [(.string ⟨#[48]⟩), y297] H298) fun y299 H300 =>
 S.b (extr 0 y299 H300) fun y301 H302 =>
 S.b (extr 1 y299 H302) fun y303 H304 =>
 S.b (extr 2 y299 H304) fun y305 H306 =>
 S.b (C 15 [(.int .i64 33)] H306) fun y307 H308 =>
 S.b (C 10 [(.string ⟨#[49]⟩), y307] H308) fun y309 H310 =>
 S.b (extr 0 y309 H310) fun y311 H312 =>
 S.b (extr 1 y309 H312) fun y313 H314 =>
 S.b (extr 2 y309 H314) fun y315 H316 =>
 S.b (C 15 [(.int .i64 1001)] H316) fun y317 H318 =>
 S.b (C 11 [(.string ⟨#[48]⟩), y317] H318) fun y319 H320 =>
 S.b (extr 0 y319 H320) fun y321 H322 =>
 S.b (extr 1 y319 H322) fun y323 H324 =>
 S.b (C 15 [(.int .i64 1000)] H324) fun y325 H326 =>
 S.b (C 11 [(.string ⟨#[48]⟩), y325] H326) fun y327 H328 =>
 S.b (extr 0 y327 H328) fun y329 H330 =>
 S.b (extr 1 y327 H330) fun y331 H332 =>
 S.b (C 15 [(.int .i64 1001)] H332) fun y333 H334 =>
 S.b (C 10 [(.string ⟨#[48]⟩), y333] H334) fun y335 H336 =>
 S.b (extr 0 y335 H336) fun y337 H338 =>
 S.b (extr 1 y335 H338) fun y339 H340 =>
 S.b (extr 2 y335 H340) fun y341 H342 =>
 S.b (C 15 [(.int .i64 2)] H342) fun y343 H344 =>
 S.b (bld [(.string ⟨#[]⟩), (.slice none 0 0)] [(0, 1, (.string ⟨#[48]⟩))] H344) fun y345 H346 =>
 S.b (bldS 2 1 [(.string ⟨#[]⟩), (.slice none 0 0)] [(0, 2, y345)] H346) fun y347 H348 =>
 S.b (app 2 40 y343 y347 H348) fun y349 H350 =>
 S.b (C 10 [(.string ⟨#[48]⟩), y349] H350) fun y351 H352 =>
 S.b (extr 0 y351 H352) fun y353 H354 =>
 S.b (extr 1 y351 H354) fun y355 H356 =>
 S.b (extr 2 y351 H356) fun y357 H358 =>
 S.b (C 11 [(.string ⟨#[57]⟩), y349] H358) fun y359 H360 =>
 S.b (extr 0 y359 H360) fun y361 H362 =>
 S.b (extr 1 y359 H362) fun y363 H364 =>
 S.b (up (binB Tryd.prog .eql 28 y295 (.int .i64 0)) H364) fun y365 H366 =>
 S.b (gd (wd y365 true) (some (y291, H366)) H366) fun y367 H368 =>
 S.b (gd (wd y365 true) (up (lenS y367) H368) H368) fun y369 H370 =>
 S.b (gd (wd y365 true) (up (binB Tryd.prog .eql 3 y369 (.int .i64 32)) H370) H370) fun y371 H372 =>
 S.b (pickV y365 y371 (.bool false) H372) fun y373 H374 =>
 S.b (gd (wd y373 true) (some (y305, H374)) H374) fun y375 H376 =>
 S.b (gd (wd y373 true) (up (binB Tryd.prog .eql 28 y375 (.int .i64 5)) H376) H376) fun y377 H378 =>
 S.b (pickV y373 y377 (.bool false) H378) fun y379 H380 =>
 S.b (gd (wd y379 true) (some (y303, H380)) H380) fun y381 H382 =>
 S.b (gd (wd y379 true) (up (binB Tryd.prog .eql 9 y381 (.string ⟨#[51, 50]⟩)) H382) H382) fun y383 H384 =>
 S.b (pickV y379 y383 (.bool false) H384) fun y385 H386 =>
 S.b (gd (wd y385 true) (some (y315, H386)) H386) fun y387 H388 =>
 S.b (gd (wd y385 true) (up (binB Tryd.prog .eql 28 y387 (.int .i64 0)) H388) H388) fun y389 H390 =>
 S.b (pickV y385 y389 (.bool false) H390) fun y391 H392 =>
 S.b (gd (wd y391 true) (some (y311, H392)) H392) fun y393 H394 =>
 S.b (gd (wd y391 true) (up (lenS y393) H394) H394) fun y395 H396 =>
 S.b (gd (wd y391 true) (up (binB Tryd.prog .eql 3 y395 (.int .i64 32)) H396) H396) fun y397 H398 =>
 S.b (pickV y391 y397 (.bool false) H398) fun y399 H400 =>
 S.b (gd (wd y399 true) (some (y323, H400)) H400) fun y401 H402 =>
 S.b (gd (wd y399 true) (up (binB Tryd.prog .eql 28 y401 (.int .i64 5)) H402) H402) fun y403 H404 =>
 S.b (pickV y399 y403 (.bool false) H404) fun y405 H406 =>
 S.b (gd (wd y405 true) (some (y331, H406)) H406) fun y407 H408 =>
 S.b (gd (wd y405 true) (up (binB Tryd.prog .eql 28 y407 (.int .i64 0)) H408) H408) fun y409 H410 =>
 S.b (pickV y405 y409 (.bool false) H410) fun y411 H412 =>
 S.b (gd (wd y411 true) (some (y329, H412)) H412) fun y413 H414 =>
 S.b (gd (wd y411 true) (up (lenS y413) H414) H414) fun y415 H416 =>
 S.b (gd (wd y411 true) (up (binB Tryd.prog .eql 3 y415 (.int .i64 1000)) H416) H416) fun y417 H418 =>
 S.b (pickV y411 y417 (.bool false) H418) fun y419 H420 =>
 S.b (gd (wd y419 true) (some (y341, H420)) H420) fun y421 H422 =>
 S.b (gd (wd y419 true) (up (binB Tryd.prog .eql 28 y421 (.int .i64 5)) H422) H422) fun y423 H424 =>
 S.b (pickV y419 y423 (.bool false) H424) fun y425 H426 =>
 S.b (gd (wd y425 true) (some (y357, H426)) H426) fun y427 H428 =>
 S.b (gd (wd y425 true) (up (binB Tryd.prog .eql 28 y427 (.int .i64 2)) H428) H428) fun y429 H430 =>
 S.b (pickV y425 y429 (.bool false) H430) fun y431 H432 =>
 S.b (gd (wd y431 true) (some (y363, H432)) H432) fun y433 H434 =>
 S.b (gd (wd y431 true) (up (binB Tryd.prog .eql 28 y433 (.int .i64 2)) H434) H434) fun y435 H436 =>
 S.b (pickV y431 y435 (.bool false) H436) fun y437 H438 =>
 S.b (bldS 1 3 [(.string ⟨#[]⟩)] [(0, 1, (.string ⟨#[98]⟩)), (1, 1, (.string ⟨#[98]⟩)), (2, 1, (.string ⟨#[97]⟩))] H438) fun y439 H440 =>
 S.b (bld [(.string ⟨#[]⟩), (.slice none 0 0)] [(0, 1, (.string ⟨#[97]⟩)), (1, 1, y439)] H440) fun y441 H442 =>
 S.b (bldS 1 2 [(.string ⟨#[]⟩)] [(0, 1, (.string ⟨#[99]⟩)), (1, 1, (.string ⟨#[120]⟩))] H442) fun y443 H444 =>
 S.b (bld [(.string ⟨#[]⟩), (.slice none 0 0)] [(0, 1, (.string ⟨#[98]⟩)), (1, 1, y443)] H444) fun y445 H446 =>
 S.b (bldS 1 1 [(.string ⟨#[]⟩)] [(0, 1, (.string ⟨#[98]⟩))] H446) fun y447 H448 =>
 S.b (bld [(.string ⟨#[]⟩), (.slice none 0 0)] [(0, 1, (.string ⟨#[99]⟩)), (1, 1, y447)] H448) fun y449 H450 =>
 S.b (bldS 1 2 [(.string ⟨#[]⟩)] [(0, 1, (.string ⟨#[100]⟩)), (1, 1, (.string ⟨#[120]⟩))] H450) fun y451 H452 =>
 S.b (bld [(.string ⟨#[]⟩), (.slice none 0 0)] [(0, 1, (.string ⟨#[100]⟩)), (1, 1, y451)] H452) fun y453 H454 =>
 S.b (bldS 1 1 [(.string ⟨#[]⟩)] [(0, 1, (.string ⟨#[101]⟩))] H454) fun y455 H456 =>
 S.b (bld [(.string ⟨#[]⟩), (.slice none 0 0)] [(0, 1, (.string ⟨#[]⟩)), (1, 1, y455)] H456) fun y457 H458 =>
 S.b (bldS 1 1 [(.string ⟨#[]⟩)] [(0, 1, (.string ⟨#[]⟩))] H458) fun y459 H460 =>
 S.b (bld [(.string ⟨#[]⟩), (.slice none 0 0)] [(0, 1, (.string ⟨#[101]⟩)), (1, 1, y459)] H460) fun y461 H462 =>
 S.b (bldS 1 3 [(.string ⟨#[]⟩)] [(0, 1, (.string ⟨#[105]⟩)), (1, 1, (.string ⟨#[106]⟩)), (2, 1, (.string ⟨#[105]⟩))] H462) fun y463 H464 =>
 S.b (bld [(.string ⟨#[]⟩), (.slice none 0 0)] [(0, 1, (.string ⟨#[104]⟩)), (1, 1, y463)] H464) fun y465 H466 =>
 S.b (bldS 1 1 [(.string ⟨#[]⟩)] [(0, 1, (.string ⟨#[106]⟩))] H466) fun y467 H468 =>
 S.b (bld [(.string ⟨#[]⟩), (.slice none 0 0)] [(0, 1, (.string ⟨#[105]⟩)), (1, 1, y467)] H468) fun y469 H470 =>
 S.b (bld [(.string ⟨#[]⟩), (.slice none 0 0)] [(0, 1, (.string ⟨#[106]⟩))] H470) fun y471 H472 =>
 S.b (bldS 2 9 [(.string ⟨#[]⟩), (.slice none 0 0)] [(0, 2, y441), (2, 2, y445), (4, 2, y449), (6, 2, y453), (8, 2, y457), (10, 2, y461), (12, 2, y465), (14, 2, y469), (16, 2, y471)] H472) fun y473 H474 =>
 P0 (putE 202 (putE 202 (putE 202 (putE 202 (putE 202 (putE 202 (putE 202 (putE 202 (putE 202 (putE 202 (putE 202 (putE 202 (putE 202 (putE 202 (putE 202 (putE 202 (putE 202 (putE 202 (putE 202 (putE 202 (putE 202 (putE 202 (putE 202 (putE 202 (putE 202 (putE 202 (putE 202 (putE 202 (putE 202 (putE 202 (putE 202 (putE 202 (putE 202 (putE 202 (putE 202 (putE 202 (putE 202 (putE 202 (putE 202 (putE 202 (putE 202 (putE 202 (putE 202 (putE 202 (putE 202 (putE 202 (putE 202 (putE 202 (putE 202 (putE 202 (putE 202 (putE 202 (putE 202 (putE 202 (putE 202 (putE 202 (putE 202 (putE 202 (putE 202 (putE 202 (putE 202 (putE 202 (putE 202 (putE 202 (putE 202 (putE 202 (putE 202 (putE 202 (putE 202 (putE 202 (putE 202 (putE 202 (putE 202 (putE 202 (putE 202 (putE 202 (putE 202 (putE 202 (putE 202 (putE 202 (putE 202 (putE 202 (putE 202 (putE 202 (putE 202 (putE 202 (putE 202 (putE 202 (putE 202 (putE 202 (putE 202 (putE 202 (putE 202 (putE 202 (putE 202 (putE 202 (putE 202 (putE 202 (putE 202 (putE 202 (putE 202 (putE 202 (putE 202 (putE 202 (putE 202 (putE 202 (putE 202 (putE 202 (putE 202 (putE 202 (putE 202 (putE 202 (putE 202 (putE 202 (putE 202 (putE 202 (putE 202 (putE 202 (putE 202 (putE 202 (putE 202 (putE 202 (putE 202 (putE 202 (putE 202 (putE 202 (putE 202 (putE 202 (putE 202 (putE 202 (putE 202 (putE 202 (putE 202 (putE 202 (putE 202 (putE 202 (putE 202 (putE 202 (putE 202 (putE 202 (putE 202 (putE 202 (env0 []) (some 0) (.bool false)) (some 27) y287) (some 28) y289) (some 26) y289) (some 29) y291) (some 30) y293) (some 31) y295) (some 1) y291) (some 2) y293) (some 3) y295) (some 33) y297) (some 34) y299) (some 32) y299) (some 35) y301) (some 36) y303) (some 37) y305) (some 4) y301) (some 5) y303) (some 6) y305) (some 39) y307) (some 40) y309) (some 38) y309) (some 41) y311) (some 42) y313) (some 43) y315) (some 7) y311) (some 8) y313) (some 9) y315) (some 45) y317) (some 46) y319) (some 44) y319) (some 47) y321) (some 48) y323) (some 10) y321) (some 11) y323) (some 50) y325) (some 51) y327) (some 49) y327) (some 52) y329) (some 53) y331) (some 12) y329) (some 13) y331) (some 55) y333) (some 56) y335) (some 54) y335) (some 57) y337) (some 58) y339) (some 59) y341) (some 14) y337) (some 15) y339) (some 16) y341) (some 60) y343) (some 61) y345) (some 62) y347) (some 63) y349) (some 17) y349) (some 65) y349) (some 66) y351) (some 64) y351) (some 67) y353) (some 68) y355) (some 69) y357) (some 18) y353) (some 19) y355) (some 20) y357) (some 71) y349) (some 72) y359) (some 70) y359) (some 73) y361) (some 74) y363) (some 21) y361) (some 22) y363) (some 75) y295) (some 76) y365) (some 77) y365) (some 78) y367) (some 79) y369) (some 80) y371) (some 81) y373) (some 82) y373) (some 83) y375) (some 84) y377) (some 85) y379) (some 86) y379) (some 87) y381) (some 88) y383) (some 89) y385) (some 90) y385) (some 91) y387) (some 92) y389) (some 93) y391) (some 94) y391) (some 95) y393) (some 96) y395) (some 97) y397) (some 98) y399) (some 99) y399) (some 100) y401) (some 101) y403) (some 102) y405) (some 103) y405) (some 104) y407) (some 105) y409) (some 106) y411) (some 107) y411) (some 108) y413) (some 109) y415) (some 110) y417) (some 111) y419) (some 112) y419) (some 113) y421) (some 114) y423) (some 115) y425) (some 116) y425) (some 117) y427) (some 118) y429) (some 119) y431) (some 120) y431) (some 121) y433) (some 122) y435) (some 123) y437) (some 23) y437) (some 124) y439) (some 125) y441) (some 126) y443) (some 127) y445) (some 128) y447) (some 129) y449) (some 130) y451) (some 131) y453) (some 132) y455) (some 133) y457) (some 134) y459) (some 135) y461) (some 136) y463) (some 137) y465) (some 138) y467) (some 139) y469) (some 140) y471) (some 141) y473) (some 24) y473) (some 25) (.int .i64 0)) H474

theorem f6_main (S : Seam (Value × Heap)) (C : CallF) (n : Nat) (H : Heap) : acodeK S Tryd.prog C n 202 f6_c (env0 []) H (fin Tryd.prog Tryd.f6) = f6 S C n H := by
  have h1 : acodeK S Tryd.prog C n 202 f6_c (env0 []) H (fin Tryd.prog Tryd.f6) = f6G S C n (fun env H => aloopK (acodeK S Tryd.prog C n 202 (cAt f6_c [1, 1, 1, 1, 1, 1, 1, 1, 1, 1, 1, 1, 0, 1, 0, 0])) n env H (kAt S Tryd.prog C n 202 f6_c [1, 1, 1, 1, 1, 1, 1, 1, 1, 1, 1, 1, 0, 1, 0] (fin Tryd.prog Tryd.f6))) H := by kernel_rfl
  have e0 : (fun env H => aloopK (acodeK S Tryd.prog C n 202 (cAt f6_c [1, 1, 1, 1, 1, 1, 1, 1, 1, 1, 1, 1, 0, 1, 0, 0])) n env H (kAt S Tryd.prog C n 202 f6_c [1, 1, 1, 1, 1, 1, 1, 1, 1, 1, 1, 1, 0, 1, 0] (fin Tryd.prog Tryd.f6))) = (fun env H => f6_L0 S C n n (env 23) (env 24) (env 25) H) := by funext env H; exact f6_L0_eq S C n n env H
  rw [e0] at h1
  exact h1.trans (by kernel_rfl)


theorem f6_eq {gl : Bool} {E : Ext} (hE : E 6 = none) (n : Nat) (H : Heap) : acall Tryd.prog gl E (n + 1) 6 [] H = f6 real (acall Tryd.prog gl E n) n H :=
  (acall_eq (N := 202) Tryd.func6 (by kernel_rfl) (by kernel_rfl) hE (okgl f6_c (by kernel_rfl)) (by kernel_rfl)).trans (f6_main real _ n H)

/-! incunable/incunablelaw16.net -/
noncomputable def f7_c : Code := (Tryd.f7.body).getD .skip

noncomputable def f7_L1 (S : Seam (Value × Heap)) (C : CallF) (n : Nat) (R0 : Value→Value→Value→Value→Heap→Option (Value × Heap)) : Nat → Value → Value → Value → Value → Value → Value → Heap → Option (Value × Heap)
 | 0, _, _, _, _, _, _, _ => none
 | m + 1, y21, y22, y23, y24, y25, y26, H27 =>
   S.b (up (iAddrS 1 y21 y24) H27) fun y28 H29 =>
   S.b (ldC y28 H29) fun y30 H31 =>
   S.b (up (lenS y30) H31) fun y32 H33 =>
   S.b (up (binB Tryd.prog .lss 3 y26 y32) H33) fun y34 H35 =>
   S.b (gd (wd y34 true) (some (y26, H35)) H35) fun y36 H37 =>
   S.b (gd (wd y34 true) (up (binB Tryd.prog .lss 3 y36 (.int .i64 6)) H37) H37) fun y38 H39 =>
   S.b (pickV y34 y38 (.bool false) H39) fun y40 H41 =>
   S.i y40
   (S.b (up (fAddr 1 y25) H41) fun y42 H43 =>
    S.c true (S.b (ldC y42 H43) fun y44 H45 =>
    S.b (up (iAddrS 1 y21 y24) H45) fun y46 H47 =>
    S.c true (S.b (ldC y46 H47) fun y48 H49 =>
    S.b (up (iAddrS 1 y48 y26) H49) fun y50 H51 =>
    S.c true (S.b (ldC y50 H51) fun y52 H53 =>
    S.b (up (binB Tryd.prog .add 3 y22 (.int .i64 1)) H53) fun y54 H55 =>
    S.b (C 9 [y52, y54] H55) fun y56 H57 =>
    S.c (sameBlk H55 H57 (blkOf y42) && true) (S.b (C 14 [y56] H57) fun y58 H59 =>
     S.c (sameBlk H57 H59 (blkOf y42) && true) (S.b (up (binB Tryd.prog .add 9 (.string ⟨#[102]⟩) y58) H59) fun y60 H61 =>
      S.b (bldS 1 1 [(.string ⟨#[]⟩)] [(0, 1, y60)] H61) fun y62 H63 =>
      S.b (app 1 16 y44 y62 H63) fun y64 H65 =>
      S.c true (S.b (up (fAddr 1 y25) H65) fun y66 H67 =>
       S.b (stV 1 y66 y64 H67) fun _ H68 =>
       S.c true (S.b (up (binB Tryd.prog .add 3 y26 (.int .i64 1)) H68) fun y69 H70 =>
        f7_L1 S C n R0 m y21 y22 y23 y24 y25 y69 H70))))))))
   (S.b (ldA 2 y25 H41) fun y71 H72 =>
    S.b (bldS 2 1 [(.string ⟨#[]⟩), (.slice none 0 0)] [(0, 2, y71)] H72) fun y73 H74 =>
    S.b (app 2 40 y23 y73 H74) fun y75 H76 =>
    S.b (up (binB Tryd.prog .add 3 y24 (.int .i64 1)) H76) fun y77 H78 =>
    R0 y21 y22 y75 y77 H78)

theorem f7_L1_eq (S : Seam (Value × Heap)) (C : CallF) (n : Nat) (R0 : Value→Value→Value→Value→Heap→Option (Value × Heap)) : ∀ (m : Nat) (env : Env) (H : Heap), aloopK (acodeK S Tryd.prog C n 55 (cAt f7_c [1, 1, 1, 0, 1, 0, 0, 1, 0, 0, 1, 0, 1, 0, 0])) m env H (kAt S Tryd.prog C n 55 (cAt f7_c [1, 1, 1, 0, 1, 0, 0]) [1, 0, 0, 1, 0, 1, 0] (onNormal (fun env' H' => R0 (env' 0) (env' 3) (env' 4) (env' 5) H') (kAt S Tryd.prog C n 55 f7_c [1, 1, 1, 0, 1, 0] (fin Tryd.prog Tryd.f7)))) = f7_L1 S C n R0 m (env 0) (env 3) (env 4) (env 5) (env 6) (env 7) H := by
  intro m env H
  refine aloopK_eq (L := fun m env H => f7_L1 S C n R0 m (env 0) (env 3) (env 4) (env 5) (env 6) (env 7) H) (fun env H => rfl) (fun m env H => ?_) m env H
  kernel_rfl


noncomputable def f7_L0 (S : Seam (Value × Heap)) (C : CallF) (n : Nat) : Nat → Value → Value → Value → Value → Heap → Option (Value × Heap)
 | 0, _, _, _, _, _ => none
 | m + 1, y5, y6, y7, y8, H9 =>
   S.b (up (binB Tryd.prog .lss 3 y8 y6) H9) fun y10 H11 =>
   S.i y10
   (S.b (C 14 [y8] H11) fun y12 H13 =>
    S.b (up (binB Tryd.prog .add 9 (.string ⟨#[102]⟩) y12) H13) fun y14 H15 =>
    S.b (bld [(.string ⟨#[]⟩), (.slice none 0 0)] [(0, 1, y14)] H15) fun y16 H17 =>
    S.b (newV [(.string ⟨#[]⟩), (.slice none 0 0)] H17) fun y18 H19 =>
    S.b (stV 2 y18 y16 H19) fun _ H20 =>
    f7_L1 S C n (f7_L0 S C n m) n y5 y6 y7 y8 y18 (.int .i64 0) H20)
   (some (y7, H11))

noncomputable def f7_L0G (S : Seam (Value × Heap)) (C : CallF) (n : Nat) (R0 : Value→Value→Value→Value→Heap→Option (Value × Heap)) (P1 : Env → Heap → Option (Value × Heap)) (env : Env) (H : Heap) : Option (Value × Heap) :=
 S.b (up (binB Tryd.prog .lss 3 (env 5) (env 3)) H) fun y79 H80 =>
 S.i y79
 (S.b (C 14 [(env 5)] H80) fun y81 H82 =>
  S.b (up (binB Tryd.prog .add 9 (.string ⟨#[102]⟩) y81) H82) fun y83 H84 =>
  S.b (bld [(.string ⟨#[]⟩), (.slice none 0 0)] [(0, 1, y83)] H84) fun y85 H86 =>
  S.b (newV [(.string ⟨#[]⟩), (.slice none 0 0)] H86) fun y87 H88 =>
  S.b (stV 2 y87 y85 H88) fun u89 H90 =>
  P1 (putE 55 (putE 55 (putE 55 (putE 55 (putE 55 (putE 55 (putE 55 (putE 55 (putE 55 (putE 55 env (some 11) (env 5)) (some 12) (env 3)) (some 13) y79) (some 16) (env 5)) (some 17) y81) (some 18) y83) (some 19) y85) (some 6) y87) none u89) (some 7) (.int .i64 0)) H90)
 (some ((env 4), H80))

theorem f7_L0_eq (S : Seam (Value × Heap)) (C : CallF) (n : Nat) : ∀ (m : Nat) (env : Env) (H : Heap), aloopK (acodeK S Tryd.prog C n 55 (cAt f7_c [1, 1, 1, 0, 1, 0, 0])) m env H (kAt S Tryd.prog C n 55 f7_c [1, 1, 1, 0, 1, 0] (fin Tryd.prog Tryd.f7)) = f7_L0 S C n m (env 0) (env 3) (env 4) (env 5) H := by
  intro m env H
  refine aloopK_eq (L := fun m env H => f7_L0 S C n m (env 0) (env 3) (env 4) (env 5) H) (fun env H => rfl) (fun m env H => ?_) m env H
  have h1 : acodeK S Tryd.prog C n 55 (cAt f7_c [1, 1, 1, 0, 1, 0, 0]) env H (onNormal (fun env' H' => f7_L0 S C n m (env' 0) (env' 3) (env' 4) (env' 5) H') (kAt S Tryd.prog C n 55 f7_c [1, 1, 1, 0, 1, 0] (fin Tryd.prog Tryd.f7))) = f7_L0G S C n (f7_L0 S C n m) (fun env H => aloopK (acodeK S Tryd.prog C n 55 (cAt f7_c [1, 1, 1, 0, 1, 0, 0, 1, 0, 0, 1, 0, 1, 0, 0])) n env H (kAt S Tryd.prog C n 55 (cAt f7_c [1, 1, 1, 0, 1, 0, 0]) [1, 0, 0, 1, 0, 1, 0] (onNormal (fun env' H' => (f7_L0 S C n m) (env' 0) (env' 3) (env' 4) (env' 5) H') (kAt S Tryd.prog C n 55 f7_c [1, 1, 1, 0, 1, 0] (fin Tryd.prog Tryd.f7))))) env H := by kernel_rfl
  have e0 : (fun env H => aloopK (acodeK S Tryd.prog C n 55 (cAt f7_c [1, 1, 1, 0, 1, 0, 0, 1, 0, 0, 1, 0, 1, 0, 0])) n env H (kAt S Tryd.prog C n 55 (cAt f7_c [1, 1, 1, 0, 1, 0, 0]) [1, 0, 0, 1, 0, 1, 0] (onNormal (fun env' H' => (f7_L0 S C n m) (env' 0) (env' 3) (env' 4) (env' 5) H') (kAt S Tryd.prog C n 55 f7_c [1, 1, 1, 0, 1, 0] (fin Tryd.prog Tryd.f7))))) = (fun env H => f7_L1 S C n (f7_L0 S C n m) n (env 0) (env 3) (env 4) (env 5) (env 6) (env 7) H) := by funext env H; exact f7_L1_eq S C n (f7_L0 S C n m) n env H
  rw [e0] at h1
  exact h1.trans (by kernel_rfl)


noncomputable def f7 (S : Seam (Value × Heap)) (C : CallF) (n : Nat) (x0 : Value) (H : Heap) : Option (Value × Heap) :=
 S.b (up (lenS x0) H) fun y1 H2 =>
 S.b (minV y1 (.int .i64 20) H2) fun y3 H4 =>
 f7_L0 S C n n x0 y3 (.slice none 0 0) (.int .i64 0) H4

noncomputable def f7G (S : Seam (Value × Heap)) (C : CallF) (n : Nat) (P0 : Env → Heap → Option (Value × Heap)) (x0 : Value) (H : Heap) : Option (Value × Heap) :=
 S.b (up (lenS x0) H) fun y91 H92 =>
 S.b (minV y91 (.int .i64 20) H92) fun y93 H94 =>
 P0 (putE 55 (putE 55 (putE 55 (putE 55 (putE 55 (putE 55 (putE 55 (env0 [x0]) (some 2) (.slice none 0 0)) (some 8) x0) (some 9) y91) (some 10) y93) (some 3) y93) (some 4) (.slice none 0 0)) (some 5) (.int .i64 0)) H94

theorem f7_main (S : Seam (Value × Heap)) (C : CallF) (n : Nat) (x0 : Value) (H : Heap) : acodeK S Tryd.prog C n 55 f7_c (env0 [x0]) H (fin Tryd.prog Tryd.f7) = f7 S C n x0 H := by
  have h1 : acodeK S Tryd.prog C n 55 f7_c (env0 [x0]) H (fin Tryd.prog Tryd.f7) = f7G S C n (fun env H => aloopK (acodeK S Tryd.prog C n 55 (cAt f7_c [1, 1, 1, 0, 1, 0, 0])) n env H (kAt S Tryd.prog C n 55 f7_c [1, 1, 1, 0, 1, 0] (fin Tryd.prog Tryd.f7))) x0 H := by kernel_rfl
  have e0 : (fun env H => aloopK (acodeK S Tryd.prog C n 55 (cAt f7_c [1, 1, 1, 0, 1, 0, 0])) n env H (kAt S Tryd.prog C n 55 f7_c [1, 1, 1, 0, 1, 0] (fin Tryd.prog Tryd.f7))) = (fun env H => f7_L0 S C n n (env 0) (env 3) (env 4) (env 5) H) := by funext env H; exact f7_L0_eq S C n n env H
  rw [e0] at h1
  exact h1.trans (by kernel_rfl)


theorem f7_eq {gl : Bool} {E : Ext} (hE : E 7 = none) (n : Nat) (x0 : Value) (H : Heap) : acall Tryd.prog gl E (n + 1) 7 [x0] H = f7 real (acall Tryd.prog gl E n) n x0 H :=
  (acall_eq (N := 55) Tryd.func7 (by kernel_rfl) (by kernel_rfl) hE (okgl f7_c (by kernel_rfl)) (by kernel_rfl)).trans (f7_main real _ n x0 H)

/-! incunable/incunablelaw16.awake -/
noncomputable def f8_c : Code := (Tryd.f8.body).getD .skip

noncomputable def f8 (S : Seam (Value × Heap)) (C : CallF) (n : Nat) (H : Heap) : Option (Value × Heap) :=
 S.b (C 18 [] H) fun y1 H2 =>
 S.b (C 10 [(.string ⟨#[97]⟩), y1] H2) fun y3 H4 =>
 S.b (extr 0 y3 H4) fun y5 H6 =>
 S.b (extr 1 y3 H6) fun y7 H8 =>
 S.b (extr 2 y3 H8) fun y9 H10 =>
 S.b (C 18 [] H10) fun y11 H12 =>
 S.b (C 11 [(.string ⟨#[97]⟩), y11] H12) fun y13 H14 =>
 S.b (extr 0 y13 H14) fun y15 H16 =>
 S.b (extr 1 y13 H16) fun y17 H18 =>
 S.b (C 18 [] H18) fun y19 H20 =>
 S.b (C 11 [(.string ⟨#[102]⟩), y19] H20) fun y21 H22 =>
 S.b (extr 0 y21 H22) fun y23 H24 =>
 S.b (extr 1 y21 H24) fun y25 H26 =>
 S.b (bldS 1 4 [(.int .i64 0)] [(0, 1, (.int .i64 3)), (1, 1, (.int .i64 1)), (2, 1, (.int .i64 2)), (3, 1, (.int .i64 0))] H26) fun y27 H28 =>
 S.b (C 19 [y5, y27] H28) fun y29 H30 =>
 S.b (gd (wd y29 true) (some (y7, H30)) H30) fun y31 H32 =>
 S.b (gd (wd y29 true) (up (binB Tryd.prog .eql 9 y31 (.string ⟨#[]⟩)) H32) H32) fun y33 H34 =>
 S.b (pickV y29 y33 (.bool false) H34) fun y35 H36 =>
 S.b (gd (wd y35 true) (some (y9, H36)) H36) fun y37 H38 =>
 S.b (gd (wd y35 true) (up (binB Tryd.prog .eql 28 y37 (.int .i64 0)) H38) H38) fun y39 H40 =>
 S.b (pickV y35 y39 (.bool false) H40) fun y41 H42 =>
 S.b (gd (wd y41 true) (C 20 [(.string ⟨#[101]⟩), (.string ⟨#[101]⟩), (.int .i64 161)] H42) H42) fun y43 H44 =>
 S.b (pickV y41 y43 (.bool false) H44) fun y45 H46 =>
 S.b (gd (wd y45 true) (C 20 [(.string ⟨#[102]⟩), (.string ⟨#[120]⟩), (.int .i64 160)] H46) H46) fun y47 H48 =>
 S.b (pickV y45 y47 (.bool false) H48) fun y49 H50 =>
 S.b (gd (wd y49 true) (C 20 [(.string ⟨#[121]⟩), (.string ⟨#[121]⟩), (.int .i64 160)] H50) H50) fun y51 H52 =>
 S.b (pickV y49 y51 (.bool false) H52) fun y53 H54 =>
 S.b (gd (wd y53 true) (some (y15, H54)) H54) fun y55 H56 =>
 S.b (gd (wd y53 true) (bldS 1 4 [(.int .i64 0)] [(0, 1, (.int .i64 0)), (1, 1, (.int .i64 1)), (2, 1, (.int .i64 2)), (3, 1, (.int .i64 3))] H56) H56) fun y57 H58 =>
 S.b (gd (wd y53 true) (C 19 [y55, y57] H58) H58) fun y59 H60 =>
 S.b (pickV y53 y59 (.bool false) H60) fun y61 H62 =>
 S.b (gd (wd y61 true) (some (y17, H62)) H62) fun y63 H64 =>
 S.b (gd (wd y61 true) (up (binB Tryd.prog .eql 28 y63 (.int .i64 0)) H64) H64) fun y65 H66 =>
 S.b (pickV y61 y65 (.bool false) H66) fun y67 H68 =>
 S.b (gd (wd y67 true) (some (y23, H68)) H68) fun y69 H70 =>
 S.b (gd (wd y67 true) (bldS 1 1 [(.int .i64 0)] [(0, 1, (.int .i64 5))] H70) H70) fun y71 H72 =>
 S.b (gd (wd y67 true) (C 19 [y69, y71] H72) H72) fun y73 H74 =>
 S.b (pickV y67 y73 (.bool false) H74) fun y75 H76 =>
 S.b (gd (wd y75 true) (some (y25, H76)) H76) fun y77 H78 =>
 S.b (gd (wd y75 true) (up (binB Tryd.prog .eql 28 y77 (.int .i64 0)) H78) H78) fun y79 H80 =>
 S.b (pickV y75 y79 (.bool false) H80) fun y81 H82 =>
 some (y81, H82)

theorem f8_main (S : Seam (Value × Heap)) (C : CallF) (n : Nat) (H : Heap) : acodeK S Tryd.prog C n 62 f8_c (env0 []) H (fin Tryd.prog Tryd.f8) = f8 S C n H := by
  kernel_rfl


theorem f8_eq {gl : Bool} {E : Ext} (hE : E 8 = none) (n : Nat) (H : Heap) : acall Tryd.prog gl E (n + 1) 8 [] H = f8 real (acall Tryd.prog gl E n) n H :=
  (acall_eq (N := 62) Tryd.func8 (by kernel_rfl) (by kernel_rfl) hE (okgl f8_c (by kernel_rfl)) (by kernel_rfl)).trans (f8_main real _ n H)

/-! incunable/incunableref00.Bring -/
noncomputable def f9_c : Code := (Tryd.f9.body).getD .skip

noncomputable def f9 (S : Seam (Value × Heap)) (C : CallF) (n : Nat) (x0 : Value) (x1 : Value) (H : Heap) : Option (Value × Heap) :=
 S.b (up (binB Tryd.prog .leq 3 x1 (.int .i64 0)) H) fun y1 H2 =>
 S.i y1
 (some ((.int .i64 0), H2))
 (S.b (up (binB Tryd.prog .rem 3 x0 x1) H2) fun y3 H4 =>
  S.b (up (binB Tryd.prog .lss 3 y3 (.int .i64 0)) H4) fun y5 H6 =>
  S.i y5
  (S.b (up (binB Tryd.prog .add 3 y3 x1) H6) fun y7 H8 =>
   some (y7, H8))
  (some (y3, H6)))

theorem f9_main (S : Seam (Value × Heap)) (C : CallF) (n : Nat) (x0 : Value) (x1 : Value) (H : Heap) : acodeK S Tryd.prog C n 16 f9_c (env0 [x0, x1]) H (fin Tryd.prog Tryd.f9) = f9 S C n x0 x1 H := by
  kernel_rfl


theorem f9_eq {gl : Bool} {E : Ext} (hE : E 9 = none) (n : Nat) (x0 : Value) (x1 : Value) (H : Heap) : acall Tryd.prog gl E (n + 1) 9 [x0, x1] H = f9 real (acall Tryd.prog gl E n) n x0 x1 H :=
  (acall_eq (N := 16) Tryd.func9 (by kernel_rfl) (by kernel_rfl) hE (okgl f9_c (by kernel_rfl)) (by kernel_rfl)).trans (f9_main real _ n x0 x1 H)

/-! incunable/imports.Order -/
noncomputable def f10_c : Code := (Tryd.f10.body).getD .skip

noncomputable def f10 (S : Seam (Value × Heap)) (C : CallF) (n : Nat) (x0 : Value) (x1 : Value) (H : Heap) : Option (Value × Heap) :=
 S.b (C 21 [x1] H) fun y1 H2 =>
 S.b (extr 0 y1 H2) fun y3 H4 =>
 S.b (extr 1 y1 H4) fun y5 H6 =>
 S.b (up (binB Tryd.prog .neq 28 y5 (.int .i64 0)) H6) fun y7 H8 =>
 S.i y7
 (some (.tuple #[(.slice none 0 0), (.string ⟨#[]⟩), y5], H8))
 (S.b (nilC y3 H8) fun y9 H10 =>
  S.b (up (fAddr 1 y9) H10) fun y11 H12 =>
  S.b (ldC y11 H12) fun y13 H14 =>
  S.b ((if keyB .string x0 then lkM .string (.int .i64 0) true y13 x0 H14 else none)) fun y15 H16 =>
  S.b (extr 0 y15 H16) fun y17 H18 =>
  S.b (extr 1 y15 H18) fun y19 H20 =>
  S.b (up (unB .not y19) H20) fun y21 H22 =>
  S.i y21
  (some (.tuple #[(.slice none 0 0), x0, (.int .i64 160)], H22))
  (S.b (C 22 [y3, y17] H22) fun y23 H24 =>
   S.b (up (binB Tryd.prog .neq 28 y23 (.int .i64 0)) H24) fun y25 H26 =>
   S.i y25
   (S.b (nilC y3 H26) fun y27 H28 =>
    S.b (up (fAddr 5 y27) H28) fun y29 H30 =>
    S.c true (S.b (ldC y29 H30) fun y31 H32 =>
    some (.tuple #[(.slice none 0 0), y31, y23], H32)))
   (S.b (nilC y3 H26) fun y33 H34 =>
    S.b (up (fAddr 4 y33) H34) fun y35 H36 =>
    S.b (ldC y35 H36) fun y37 H38 =>
    some (.tuple #[y37, (.string ⟨#[]⟩), (.int .i64 0)], H38))))

theorem f10_main (S : Seam (Value × Heap)) (C : CallF) (n : Nat) (x0 : Value) (x1 : Value) (H : Heap) : acodeK S Tryd.prog C n 46 f10_c (env0 [x0, x1]) H (fin Tryd.prog Tryd.f10) = f10 S C n x0 x1 H := by
  kernel_rfl


theorem f10_eq {gl : Bool} {E : Ext} (hE : E 10 = none) (n : Nat) (x0 : Value) (x1 : Value) (H : Heap) : acall Tryd.prog gl E (n + 1) 10 [x0, x1] H = f10 real (acall Tryd.prog gl E n) n x0 x1 H :=
  (acall_eq (N := 46) Tryd.func10 (by kernel_rfl) (by kernel_rfl) hE (okgl f10_c (by kernel_rfl)) (by kernel_rfl)).trans (f10_main real _ n x0 x1 H)

/-! incunable/imports.Reach -/
noncomputable def f11_c : Code := (Tryd.f11.body).getD .skip

noncomputable def f11_J1 (S : Seam (Value × Heap)) (C : CallF) (n : Nat) (R0 : Value→Value→Value→Value→Heap→Option (Value × Heap)) (y80 y81 y82 y83 : Value) (H84 : Heap) : Option (Value × Heap) :=
 S.b (up (slcS 1 y83 (some (.int .i64 1)) none none) H84) fun y85 H86 =>
 R0 y80 y81 y82 y85 H86

noncomputable def f11_L0 (S : Seam (Value × Heap)) (C : CallF) (n : Nat) : Nat → Value → Value → Value → Value → Heap → Option (Value × Heap)
 | 0, _, _, _, _, _ => none
 | m + 1, y11, y12, y13, y14, H15 =>
   S.b (up (lenS y14) H15) fun y16 H17 =>
   S.b (up (binB Tryd.prog .gtr 3 y16 (.int .i64 0)) H17) fun y18 H19 =>
   S.i y18
   (S.b (nilC y12 H19) fun y20 H21 =>
    S.b (up (fAddr 1 y20) H21) fun y22 H23 =>
    S.c true (S.b (ldC y22 H23) fun y24 H25 =>
    S.b (up (iAddrS 1 y14 (.int .i64 0)) H25) fun y26 H27 =>
    S.c true (S.b (ldC y26 H27) fun y28 H29 =>
    S.b ((if keyB .string y28 then lkM .string (.int .i64 0) true y24 y28 H29 else none)) fun y30 H31 =>
    S.c true (S.b (extr 0 y30 H31) fun y32 H33 =>
     S.b (extr 1 y30 H33) fun y34 H35 =>
     S.b (gd (wd y34 true) (some (y12, H35)) H35) fun y36 H37 =>
     S.b (gd (wd y34 true) (nilC y36 H37) H37) fun y38 H39 =>
     S.b (gd (wd y34 true) (up (fAddr 2 y38) H39) H39) fun y40 H41 =>
     S.b (gd (wd y34 true) (ldC y40 H41) H41) fun y42 H43 =>
     S.b (gd (wd y34 true) (some (y32, H43)) H43) fun y44 H45 =>
     S.b (gd (wd y34 true) (up (iAddrS 1 y42 y44) H45) H45) fun y46 H47 =>
     S.b (gd (wd y34 true) (ldC y46 H47) H47) fun y48 H49 =>
     S.b (gd (wd y34 true) (up (binB Tryd.prog .eql 3 y48 (.int .i64 0)) H49) H49) fun y50 H51 =>
     S.b (pickV y34 y50 (.bool false) H51) fun y52 H53 =>
     S.i y52
     (S.b (nilC y12 H53) fun y54 H55 =>
      S.b (up (fAddr 2 y54) H55) fun y56 H57 =>
      S.b (ldC y56 H57) fun y58 H59 =>
      S.b (up (iAddrS 1 y58 y32) H59) fun y60 H61 =>
      S.b (stV 1 y60 (.int .i64 2) H61) fun _ H62 =>
      S.b (bldS 1 1 [(.int .i64 0)] [(0, 1, y32)] H62) fun y63 H64 =>
      S.b (app 1 8 y13 y63 H64) fun y65 H66 =>
      S.c true (S.b (up (iAddrS 2 y11 y32) H66) fun y67 H68 =>
       S.b (up (fAddr 1 y67) H68) fun y69 H70 =>
       S.c ((sameBlk H64 H66 (blkOf y69)) && true) (S.b (ldC y69 H70) fun y71 H72 =>
       S.b (app 1 16 y14 y71 H72) fun y73 H74 =>
       S.c true (f11_J1 S C n (f11_L0 S C n m) y11 y12 y65 y73 H74))))
     (f11_J1 S C n (f11_L0 S C n m) y11 y12 y13 y14 H53)))))
   (S.b (C 23 [y13] H19) fun y87 H88 =>
    some (.tuple #[y13, (.int .i64 0)], H88))

theorem f11_L0_eq (S : Seam (Value × Heap)) (C : CallF) (n : Nat) : ∀ (m : Nat) (env : Env) (H : Heap), aloopK (acodeK S Tryd.prog C n 69 (cAt f11_c [1, 1, 1, 1, 0, 1, 0, 0])) m env H (kAt S Tryd.prog C n 69 f11_c [1, 1, 1, 1, 0, 1, 0] (fin Tryd.prog Tryd.f11)) = f11_L0 S C n m (env 1) (env 6) (env 8) (env 9) H := by
  intro m env H
  refine aloopK_eq (L := fun m env H => f11_L0 S C n m (env 1) (env 6) (env 8) (env 9) H) (fun env H => rfl) (fun m env H => ?_) m env H
  kernel_rfl


noncomputable def f11 (S : Seam (Value × Heap)) (C : CallF) (n : Nat) (x0 : Value) (x1 : Value) (H : Heap) : Option (Value × Heap) :=
 S.b (C 21 [x1] H) fun y1 H2 =>
 S.b (extr 0 y1 H2) fun y3 H4 =>
 S.b (extr 1 y1 H4) fun y5 H6 =>
 S.b (up (binB Tryd.prog .neq 28 y5 (.int .i64 0)) H6) fun y7 H8 =>
 S.i y7
 (some (.tuple #[(.slice none 0 0), y5], H8))
 (S.b (bldS 1 1 [(.string ⟨#[]⟩)] [(0, 1, x0)] H8) fun y9 H10 =>
  f11_L0 S C n n x1 y3 (.slice none 0 0) y9 H10)

noncomputable def f11G (S : Seam (Value × Heap)) (C : CallF) (n : Nat) (P0 : Env → Heap → Option (Value × Heap)) (x0 : Value) (x1 : Value) (H : Heap) : Option (Value × Heap) :=
 S.b (C 21 [x1] H) fun y89 H90 =>
 S.b (extr 0 y89 H90) fun y91 H92 =>
 S.b (extr 1 y89 H92) fun y93 H94 =>
 S.b (up (binB Tryd.prog .neq 28 y93 (.int .i64 0)) H94) fun y95 H96 =>
 S.i y95
 (some (.tuple #[(.slice none 0 0), y93], H96))
 (S.b (bldS 1 1 [(.string ⟨#[]⟩)] [(0, 1, x0)] H96) fun y97 H98 =>
  P0 (putE 69 (putE 69 (putE 69 (putE 69 (putE 69 (putE 69 (putE 69 (putE 69 (putE 69 (putE 69 (putE 69 (putE 69 (putE 69 (putE 69 (putE 69 (env0 [x0, x1]) (some 4) (.slice none 0 0)) (some 5) (.int .i64 0)) (some 13) x1) (some 14) y89) (some 12) y89) (some 15) y91) (some 16) y93) (some 6) y91) (some 7) y93) (some 17) y93) (some 18) y95) (some 8) (.slice none 0 0)) (some 20) x0) (some 21) y97) (some 9) y97) H98)

theorem f11_main (S : Seam (Value × Heap)) (C : CallF) (n : Nat) (x0 : Value) (x1 : Value) (H : Heap) : acodeK S Tryd.prog C n 69 f11_c (env0 [x0, x1]) H (fin Tryd.prog Tryd.f11) = f11 S C n x0 x1 H := by
  have h1 : acodeK S Tryd.prog C n 69 f11_c (env0 [x0, x1]) H (fin Tryd.prog Tryd.f11) = f11G S C n (fun env H => aloopK (acodeK S Tryd.prog C n 69 (cAt f11_c [1, 1, 1, 1, 0, 1, 0, 0])) n env H (kAt S Tryd.prog C n 69 f11_c [1, 1, 1, 1, 0, 1, 0] (fin Tryd.prog Tryd.f11))) x0 x1 H := by kernel_rfl
  have e0 : (fun env H => aloopK (acodeK S Tryd.prog C n 69 (cAt f11_c [1, 1, 1, 1, 0, 1, 0, 0])) n env H (kAt S Tryd.prog C n 69 f11_c [1, 1, 1, 1, 0, 1, 0] (fin Tryd.prog Tryd.f11))) = (fun env H => f11_L0 S C n n (env 1) (env 6) (env 8) (env 9) H) := by funext env H; exact f11_L0_eq S C n n env H
  rw [e0] at h1
  exact h1.trans (by kernel_rfl)


theorem f11_eq {gl : Bool} {E : Ext} (hE : E 11 = none) (n : Nat) (x0 : Value) (x1 : Value) (H : Heap) : acall Tryd.prog gl E (n + 1) 11 [x0, x1] H = f11 real (acall Tryd.prog gl E n) n x0 x1 H :=
  (acall_eq (N := 69) Tryd.func11 (by kernel_rfl) (by kernel_rfl) hE (okgl f11_c (by kernel_rfl)) (by kernel_rfl)).trans (f11_main real _ n x0 x1 H)

/-! incunable/incunablelaw16.has -/
noncomputable def f12_c : Code := (Tryd.f12.body).getD .skip

noncomputable def f12_L0 (S : Seam (Value × Heap)) (C : CallF) (n : Nat) : Nat → Value → Value → Value → Value → Heap → Option (Value × Heap)
 | 0, _, _, _, _, _ => none
 | m + 1, y1, y2, y3, y4, H5 =>
   S.b (up (lenS y1) H5) fun y6 H7 =>
   S.b (up (binB Tryd.prog .lss 3 y4 y6) H7) fun y8 H9 =>
   S.b (gd (wd y8 true) (some (y4, H9)) H9) fun y10 H11 =>
   S.b (gd (wd y8 true) (some (y3, H11)) H11) fun y12 H13 =>
   S.b (gd (wd y8 true) (up (binB Tryd.prog .lss 3 y10 y12) H13) H13) fun y14 H15 =>
   S.b (pickV y8 y14 (.bool false) H15) fun y16 H17 =>
   S.i y16
   (S.b (up (iAddrS 1 y1 y4) H17) fun y18 H19 =>
    S.b (ldC y18 H19) fun y20 H21 =>
    S.b (up (binB Tryd.prog .eql 3 y20 y2) H21) fun y22 H23 =>
    S.i y22
    (some ((.bool true), H23))
    (S.b (up (binB Tryd.prog .add 3 y4 (.int .i64 1)) H23) fun y24 H25 =>
     f12_L0 S C n m y1 y2 y3 y24 H25))
   (some ((.bool false), H17))

theorem f12_L0_eq (S : Seam (Value × Heap)) (C : CallF) (n : Nat) : ∀ (m : Nat) (env : Env) (H : Heap), aloopK (acodeK S Tryd.prog C n 25 (cAt f12_c [1, 0, 1, 0, 0])) m env H (kAt S Tryd.prog C n 25 f12_c [1, 0, 1, 0] (fin Tryd.prog Tryd.f12)) = f12_L0 S C n m (env 0) (env 1) (env 2) (env 7) H := by
  intro m env H
  refine aloopK_eq (L := fun m env H => f12_L0 S C n m (env 0) (env 1) (env 2) (env 7) H) (fun env H => rfl) (fun m env H => ?_) m env H
  kernel_rfl


noncomputable def f12 (S : Seam (Value × Heap)) (C : CallF) (n : Nat) (x0 : Value) (x1 : Value) (x2 : Value) (H : Heap) : Option (Value × Heap) :=
 f12_L0 S C n n x0 x1 x2 (.int .i64 0) H

noncomputable def f12G (S : Seam (Value × Heap)) (C : CallF) (n : Nat) (P0 : Env → Heap → Option (Value × Heap)) (x0 : Value) (x1 : Value) (x2 : Value) (H : Heap) : Option (Value × Heap) :=
 P0 (putE 25 (putE 25 (env0 [x0, x1, x2]) (some 6) (.bool false)) (some 7) (.int .i64 0)) H

theorem f12_main (S : Seam (Value × Heap)) (C : CallF) (n : Nat) (x0 : Value) (x1 : Value) (x2 : Value) (H : Heap) : acodeK S Tryd.prog C n 25 f12_c (env0 [x0, x1, x2]) H (fin Tryd.prog Tryd.f12) = f12 S C n x0 x1 x2 H := by
  have h1 : acodeK S Tryd.prog C n 25 f12_c (env0 [x0, x1, x2]) H (fin Tryd.prog Tryd.f12) = f12G S C n (fun env H => aloopK (acodeK S Tryd.prog C n 25 (cAt f12_c [1, 0, 1, 0, 0])) n env H (kAt S Tryd.prog C n 25 f12_c [1, 0, 1, 0] (fin Tryd.prog Tryd.f12))) x0 x1 x2 H := by kernel_rfl
  have e0 : (fun env H => aloopK (acodeK S Tryd.prog C n 25 (cAt f12_c [1, 0, 1, 0, 0])) n env H (kAt S Tryd.prog C n 25 f12_c [1, 0, 1, 0] (fin Tryd.prog Tryd.f12))) = (fun env H => f12_L0 S C n n (env 0) (env 1) (env 2) (env 7) H) := by funext env H; exact f12_L0_eq S C n n env H
  rw [e0] at h1
  exact h1.trans (by kernel_rfl)


theorem f12_eq {gl : Bool} {E : Ext} (hE : E 12 = none) (n : Nat) (x0 : Value) (x1 : Value) (x2 : Value) (H : Heap) : acall Tryd.prog gl E (n + 1) 12 [x0, x1, x2] H = f12 real (acall Tryd.prog gl E n) n x0 x1 x2 H :=
  (acall_eq (N := 25) Tryd.func12 (by kernel_rfl) (by kernel_rfl) hE (okgl f12_c (by kernel_rfl)) (by kernel_rfl)).trans (f12_main real _ n x0 x1 x2 H)

/-! incunable/incunablelaw16.place -/
noncomputable def f13_c : Code := (Tryd.f13.body).getD .skip

noncomputable def f13_L0 (S : Seam (Value × Heap)) (C : CallF) (n : Nat) : Nat → Value → Value → Value → Heap → Option (Value × Heap)
 | 0, _, _, _, _ => none
 | m + 1, y1, y2, y3, H4 =>
   S.b (up (lenS y1) H4) fun y5 H6 =>
   S.b (up (binB Tryd.prog .lss 3 y3 y5) H6) fun y7 H8 =>
   S.i y7
   (S.b (up (iAddrS 2 y1 y3) H8) fun y9 H10 =>
    S.b (up (fAddr 0 y9) H10) fun y11 H12 =>
    S.b (ldC y11 H12) fun y13 H14 =>
    S.b (up (binB Tryd.prog .eql 9 y13 y2) H14) fun y15 H16 =>
    S.i y15
    (some (y3, H16))
    (S.b (up (binB Tryd.prog .add 3 y3 (.int .i64 1)) H16) fun y17 H18 =>
     f13_L0 S C n m y1 y2 y17 H18))
   (some ((.int .i64 (-1)), H8))

theorem f13_L0_eq (S : Seam (Value × Heap)) (C : CallF) (n : Nat) : ∀ (m : Nat) (env : Env) (H : Heap), aloopK (acodeK S Tryd.prog C n 20 (cAt f13_c [1, 0, 1, 0, 0])) m env H (kAt S Tryd.prog C n 20 f13_c [1, 0, 1, 0] (fin Tryd.prog Tryd.f13)) = f13_L0 S C n m (env 0) (env 1) (env 5) H := by
  intro m env H
  refine aloopK_eq (L := fun m env H => f13_L0 S C n m (env 0) (env 1) (env 5) H) (fun env H => rfl) (fun m env H => ?_) m env H
  kernel_rfl


noncomputable def f13 (S : Seam (Value × Heap)) (C : CallF) (n : Nat) (x0 : Value) (x1 : Value) (H : Heap) : Option (Value × Heap) :=
 f13_L0 S C n n x0 x1 (.int .i64 0) H

noncomputable def f13G (S : Seam (Value × Heap)) (C : CallF) (n : Nat) (P0 : Env → Heap → Option (Value × Heap)) (x0 : Value) (x1 : Value) (H : Heap) : Option (Value × Heap) :=
 P0 (putE 20 (putE 20 (env0 [x0, x1]) (some 4) (.int .i64 0)) (some 5) (.int .i64 0)) H

theorem f13_main (S : Seam (Value × Heap)) (C : CallF) (n : Nat) (x0 : Value) (x1 : Value) (H : Heap) : acodeK S Tryd.prog C n 20 f13_c (env0 [x0, x1]) H (fin Tryd.prog Tryd.f13) = f13 S C n x0 x1 H := by
  have h1 : acodeK S Tryd.prog C n 20 f13_c (env0 [x0, x1]) H (fin Tryd.prog Tryd.f13) = f13G S C n (fun env H => aloopK (acodeK S Tryd.prog C n 20 (cAt f13_c [1, 0, 1, 0, 0])) n env H (kAt S Tryd.prog C n 20 f13_c [1, 0, 1, 0] (fin Tryd.prog Tryd.f13))) x0 x1 H := by kernel_rfl
  have e0 : (fun env H => aloopK (acodeK S Tryd.prog C n 20 (cAt f13_c [1, 0, 1, 0, 0])) n env H (kAt S Tryd.prog C n 20 f13_c [1, 0, 1, 0] (fin Tryd.prog Tryd.f13))) = (fun env H => f13_L0 S C n n (env 0) (env 1) (env 5) H) := by funext env H; exact f13_L0_eq S C n n env H
  rw [e0] at h1
  exact h1.trans (by kernel_rfl)


theorem f13_eq {gl : Bool} {E : Ext} (hE : E 13 = none) (n : Nat) (x0 : Value) (x1 : Value) (H : Heap) : acall Tryd.prog gl E (n + 1) 13 [x0, x1] H = f13 real (acall Tryd.prog gl E n) n x0 x1 H :=
  (acall_eq (N := 20) Tryd.func13 (by kernel_rfl) (by kernel_rfl) hE (okgl f13_c (by kernel_rfl)) (by kernel_rfl)).trans (f13_main real _ n x0 x1 H)

/-! incunable/incunablelaw16.row -/
noncomputable def f15_c : Code := (Tryd.f15.body).getD .skip

noncomputable def f15_J1 (S : Seam (Value × Heap)) (C : CallF) (n : Nat) (R0 : Value→Value→Value→Heap→Option (Value × Heap)) (y33 y34 y35 y36 : Value) (H37 : Heap) : Option (Value × Heap) :=
 S.b (ldA 2 y36 H37) fun y38 H39 =>
 S.b (bldS 2 1 [(.string ⟨#[]⟩), (.slice none 0 0)] [(0, 2, y38)] H39) fun y40 H41 =>
 S.b (app 2 40 y34 y40 H41) fun y42 H43 =>
 S.b (up (binB Tryd.prog .add 3 y35 (.int .i64 1)) H43) fun y44 H45 =>
 R0 y33 y42 y44 H45

noncomputable def f15_L0 (S : Seam (Value × Heap)) (C : CallF) (n : Nat) : Nat → Value → Value → Value → Heap → Option (Value × Heap)
 | 0, _, _, _, _ => none
 | m + 1, y1, y2, y3, H4 =>
   S.b (up (binB Tryd.prog .lss 3 y3 y1) H4) fun y5 H6 =>
   S.i y5
   (S.b (C 14 [y3] H6) fun y7 H8 =>
    S.b (bld [(.string ⟨#[]⟩), (.slice none 0 0)] [(0, 1, y7)] H8) fun y9 H10 =>
    S.b (newV [(.string ⟨#[]⟩), (.slice none 0 0)] H10) fun y11 H12 =>
    S.b (stV 2 y11 y9 H12) fun _ H13 =>
    S.b (up (binB Tryd.prog .add 3 y3 (.int .i64 1)) H13) fun y14 H15 =>
    S.b (up (binB Tryd.prog .lss 3 y14 y1) H15) fun y16 H17 =>
    S.i y16
    (S.b (up (fAddr 1 y11) H17) fun y18 H19 =>
     S.c true (S.b (ldC y18 H19) fun y20 H21 =>
     S.b (up (binB Tryd.prog .add 3 y3 (.int .i64 1)) H21) fun y22 H23 =>
     S.b (C 14 [y22] H23) fun y24 H25 =>
     S.c (sameBlk H23 H25 (blkOf y18) && true) (S.b (bldS 1 1 [(.string ⟨#[]⟩)] [(0, 1, y24)] H25) fun y26 H27 =>
      S.b (app 1 16 y20 y26 H27) fun y28 H29 =>
      S.c true (S.b (up (fAddr 1 y11) H29) fun y30 H31 =>
       S.b (stV 1 y30 y28 H31) fun _ H32 =>
       S.c true (f15_J1 S C n (f15_L0 S C n m) y1 y2 y3 y11 H32)))))
    (f15_J1 S C n (f15_L0 S C n m) y1 y2 y3 y11 H17))
   (some (y2, H6))

theorem f15_L0_eq (S : Seam (Value × Heap)) (C : CallF) (n : Nat) : ∀ (m : Nat) (env : Env) (H : Heap), aloopK (acodeK S Tryd.prog C n 31 (cAt f15_c [1, 1, 0, 1, 0, 0])) m env H (kAt S Tryd.prog C n 31 f15_c [1, 1, 0, 1, 0] (fin Tryd.prog Tryd.f15)) = f15_L0 S C n m (env 0) (env 3) (env 4) H := by
  intro m env H
  refine aloopK_eq (L := fun m env H => f15_L0 S C n m (env 0) (env 3) (env 4) H) (fun env H => rfl) (fun m env H => ?_) m env H
  kernel_rfl


noncomputable def f15 (S : Seam (Value × Heap)) (C : CallF) (n : Nat) (x0 : Value) (H : Heap) : Option (Value × Heap) :=
 f15_L0 S C n n x0 (.slice none 0 0) (.int .i64 0) H

noncomputable def f15G (S : Seam (Value × Heap)) (C : CallF) (n : Nat) (P0 : Env → Heap → Option (Value × Heap)) (x0 : Value) (H : Heap) : Option (Value × Heap) :=
 P0 (putE 31 (putE 31 (putE 31 (env0 [x0]) (some 2) (.slice none 0 0)) (some 3) (.slice none 0 0)) (some 4) (.int .i64 0)) H

theorem f15_main (S : Seam (Value × Heap)) (C : CallF) (n : Nat) (x0 : Value) (H : Heap) : acodeK S Tryd.prog C n 31 f15_c (env0 [x0]) H (fin Tryd.prog Tryd.f15) = f15 S C n x0 H := by
  have h1 : acodeK S Tryd.prog C n 31 f15_c (env0 [x0]) H (fin Tryd.prog Tryd.f15) = f15G S C n (fun env H => aloopK (acodeK S Tryd.prog C n 31 (cAt f15_c [1, 1, 0, 1, 0, 0])) n env H (kAt S Tryd.prog C n 31 f15_c [1, 1, 0, 1, 0] (fin Tryd.prog Tryd.f15))) x0 H := by kernel_rfl
  have e0 : (fun env H => aloopK (acodeK S Tryd.prog C n 31 (cAt f15_c [1, 1, 0, 1, 0, 0])) n env H (kAt S Tryd.prog C n 31 f15_c [1, 1, 0, 1, 0] (fin Tryd.prog Tryd.f15))) = (fun env H => f15_L0 S C n n (env 0) (env 3) (env 4) H) := by funext env H; exact f15_L0_eq S C n n env H
  rw [e0] at h1
  exact h1.trans (by kernel_rfl)


theorem f15_eq {gl : Bool} {E : Ext} (hE : E 15 = none) (n : Nat) (x0 : Value) (H : Heap) : acall Tryd.prog gl E (n + 1) 15 [x0] H = f15 real (acall Tryd.prog gl E n) n x0 H :=
  (acall_eq (N := 31) Tryd.func15 (by kernel_rfl) (by kernel_rfl) hE (okgl f15_c (by kernel_rfl)) (by kernel_rfl)).trans (f15_main real _ n x0 H)

/-! incunable/incunablelaw16.ImportsOrder -/
noncomputable def f16_c : Code := (Tryd.f16.body).getD .skip

noncomputable def f16_L0 (S : Seam (Value × Heap)) (C : CallF) (n : Nat) : Nat → Value → Value → Value → Heap → Option (Value × Heap)
 | 0, _, _, _, _ => none
 | m + 1, y41, y42, y43, H44 =>
   S.b (up (lenS y42) H44) fun y45 H46 =>
   S.b (up (binB Tryd.prog .lss 3 y43 y45) H46) fun y47 H48 =>
   S.i y47
   (S.b (up (iAddrS 2 y42 y43) H48) fun y49 H50 =>
    S.b (up (fAddr 0 y49) H50) fun y51 H52 =>
    S.c true (S.b (ldC y51 H52) fun y53 H54 =>
    S.b (up (iAddrS 2 y41 y43) H54) fun y55 H56 =>
    S.b (up (fAddr 0 y55) H56) fun y57 H58 =>
    S.c true (S.b (ldC y57 H58) fun y59 H60 =>
    S.b (up (binB Tryd.prog .neq 9 y53 y59) H60) fun y61 H62 =>
    S.i y61
    (some ((.bool false), H62))
    (S.b (up (binB Tryd.prog .add 3 y43 (.int .i64 1)) H62) fun y63 H64 =>
     f16_L0 S C n m y41 y42 y63 H64))))
   (S.b (C 8 [] H48) fun y65 H66 =>
    some (y65, H66))

theorem f16_L0_eq (S : Seam (Value × Heap)) (C : CallF) (n : Nat) : ∀ (m : Nat) (env : Env) (H : Heap), aloopK (acodeK S Tryd.prog C n 62 (cAt f16_c [1, 1, 1, 1, 1, 0, 1, 0, 0])) m env H (kAt S Tryd.prog C n 62 f16_c [1, 1, 1, 1, 1, 0, 1, 0] (fin Tryd.prog Tryd.f16)) = f16_L0 S C n m (env 1) (env 5) (env 12) H := by
  intro m env H
  refine aloopK_eq (L := fun m env H => f16_L0 S C n m (env 1) (env 5) (env 12) H) (fun env H => rfl) (fun m env H => ?_) m env H
  kernel_rfl


noncomputable def f16 (S : Seam (Value × Heap)) (C : CallF) (n : Nat) (x0 : Value) (x1 : Value) (H : Heap) : Option (Value × Heap) :=
 S.b (C 25 [x1] H) fun y1 H2 =>
 S.b (C 10 [x0, y1] H2) fun y3 H4 =>
 S.b (extr 0 y3 H4) fun y5 H6 =>
 S.b (extr 1 y3 H6) fun y7 H8 =>
 S.b (extr 2 y3 H8) fun y9 H10 =>
 S.b (C 27 [x1] H10) fun y11 H12 =>
 S.b (C 26 [x0, y11] H12) fun y13 H14 =>
 S.b (extr 0 y13 H14) fun y15 H16 =>
 S.b (extr 1 y13 H16) fun y17 H18 =>
 S.b (extr 2 y13 H18) fun y19 H20 =>
 S.b (C 19 [y5, y15] H20) fun y21 H22 =>
 S.b (up (unB .not y21) H22) fun y23 H24 =>
 S.b (gd (wd y23 false) (some (y7, H24)) H24) fun y25 H26 =>
 S.b (gd (wd y23 false) (some (y17, H26)) H26) fun y27 H28 =>
 S.b (gd (wd y23 false) (up (binB Tryd.prog .neq 9 y25 y27) H28) H28) fun y29 H30 =>
 S.b (pickV y23 (.bool true) y29 H30) fun y31 H32 =>
 S.b (gd (wd y31 false) (some (y9, H32)) H32) fun y33 H34 =>
 S.b (gd (wd y31 false) (some (y19, H34)) H34) fun y35 H36 =>
 S.b (gd (wd y31 false) (up (binB Tryd.prog .neq 28 y33 y35) H36) H36) fun y37 H38 =>
 S.b (pickV y31 (.bool true) y37 H38) fun y39 H40 =>
 S.i y39
 (some ((.bool false), H40))
 (f16_L0 S C n n x1 y1 (.int .i64 0) H40)

noncomputable def f16G (S : Seam (Value × Heap)) (C : CallF) (n : Nat) (P0 : Env → Heap → Option (Value × Heap)) (x0 : Value) (x1 : Value) (H : Heap) : Option (Value × Heap) :=
 S.b (C 25 [x1] H) fun y67 H68 =>
 S.b (C 10 [x0, y67] H68) fun y69 H70 =>
 S.b (extr 0 y69 H70) fun y71 H72 =>
 S.b (extr 1 y69 H72) fun y73 H74 =>
 S.b (extr 2 y69 H74) fun y75 H76 =>
 S.b (C 27 [x1] H76) fun y77 H78 =>
 S.b (C 26 [x0, y77] H78) fun y79 H80 =>
 S.b (extr 0 y79 H80) fun y81 H82 =>
 S.b (extr 1 y79 H82) fun y83 H84 =>
 S.b (extr 2 y79 H84) fun y85 H86 =>
 S.b (C 19 [y71, y81] H86) fun y87 H88 =>
 S.b (up (unB .not y87) H88) fun y89 H90 =>
 S.b (gd (wd y89 false) (some (y73, H90)) H90) fun y91 H92 =>
 S.b (gd (wd y89 false) (some (y83, H92)) H92) fun y93 H94 =>
 S.b (gd (wd y89 false) (up (binB Tryd.prog .neq 9 y91 y93) H94) H94) fun y95 H96 =>
 S.b (pickV y89 (.bool true) y95 H96) fun y97 H98 =>
 S.b (gd (wd y97 false) (some (y75, H98)) H98) fun y99 H100 =>
 S.b (gd (wd y97 false) (some (y85, H100)) H100) fun y101 H102 =>
 S.b (gd (wd y97 false) (up (binB Tryd.prog .neq 28 y99 y101) H102) H102) fun y103 H104 =>
 S.b (pickV y97 (.bool true) y103 H104) fun y105 H106 =>
 S.i y105
 (some ((.bool false), H106))
 (P0 (putE 62 (putE 62 (putE 62 (putE 62 (putE 62 (putE 62 (putE 62 (putE 62 (putE 62 (putE 62 (putE 62 (putE 62 (putE 62 (putE 62 (putE 62 (putE 62 (putE 62 (putE 62 (putE 62 (putE 62 (putE 62 (putE 62 (putE 62 (putE 62 (putE 62 (putE 62 (putE 62 (putE 62 (putE 62 (putE 62 (putE 62 (putE 62 (putE 62 (putE 62 (putE 62 (putE 62 (putE 62 (putE 62 (putE 62 (putE 62 (env0 [x0, x1]) (some 4) (.bool false)) (some 13) x1) (some 14) y67) (some 5) y67) (some 16) x0) (some 17) y67) (some 18) y69) (some 15) y69) (some 19) y71) (some 20) y73) (some 21) y75) (some 6) y71) (some 7) y73) (some 8) y75) (some 23) x0) (some 24) x1) (some 25) y77) (some 26) y79) (some 22) y79) (some 27) y81) (some 28) y83) (some 29) y85) (some 9) y81) (some 10) y83) (some 11) y85) (some 30) y71) (some 31) y81) (some 32) y87) (some 33) y89) (some 34) y89) (some 35) y91) (some 36) y93) (some 37) y95) (some 38) y97) (some 39) y97) (some 40) y99) (some 41) y101) (some 42) y103) (some 43) y105) (some 12) (.int .i64 0)) H106)

theorem f16_main (S : Seam (Value × Heap)) (C : CallF) (n : Nat) (x0 : Value) (x1 : Value) (H : Heap) : acodeK S Tryd.prog C n 62 f16_c (env0 [x0, x1]) H (fin Tryd.prog Tryd.f16) = f16 S C n x0 x1 H := by
  have h1 : acodeK S Tryd.prog C n 62 f16_c (env0 [x0, x1]) H (fin Tryd.prog Tryd.f16) = f16G S C n (fun env H => aloopK (acodeK S Tryd.prog C n 62 (cAt f16_c [1, 1, 1, 1, 1, 0, 1, 0, 0])) n env H (kAt S Tryd.prog C n 62 f16_c [1, 1, 1, 1, 1, 0, 1, 0] (fin Tryd.prog Tryd.f16))) x0 x1 H := by kernel_rfl
  have e0 : (fun env H => aloopK (acodeK S Tryd.prog C n 62 (cAt f16_c [1, 1, 1, 1, 1, 0, 1, 0, 0])) n env H (kAt S Tryd.prog C n 62 f16_c [1, 1, 1, 1, 1, 0, 1, 0] (fin Tryd.prog Tryd.f16))) = (fun env H => f16_L0 S C n n (env 1) (env 5) (env 12) H) := by funext env H; exact f16_L0_eq S C n n env H
  rw [e0] at h1
  exact h1.trans (by kernel_rfl)


theorem f16_eq {gl : Bool} {E : Ext} (hE : E 16 = none) (n : Nat) (x0 : Value) (x1 : Value) (H : Heap) : acall Tryd.prog gl E (n + 1) 16 [x0, x1] H = f16 real (acall Tryd.prog gl E n) n x0 x1 H :=
  (acall_eq (N := 62) Tryd.func16 (by kernel_rfl) (by kernel_rfl) hE (okgl f16_c (by kernel_rfl)) (by kernel_rfl)).trans (f16_main real _ n x0 x1 H)

/-! incunable/incunablelaw16.ImportsReach -/
noncomputable def f17_c : Code := (Tryd.f17.body).getD .skip

noncomputable def f17 (S : Seam (Value × Heap)) (C : CallF) (n : Nat) (x0 : Value) (x1 : Value) (H : Heap) : Option (Value × Heap) :=
 S.b (C 25 [x1] H) fun y1 H2 =>
 S.b (C 11 [x0, y1] H2) fun y3 H4 =>
 S.b (extr 0 y3 H4) fun y5 H6 =>
 S.b (extr 1 y3 H6) fun y7 H8 =>
 S.b (C 27 [x1] H8) fun y9 H10 =>
 S.b (C 28 [x0, y9] H10) fun y11 H12 =>
 S.b (extr 0 y11 H12) fun y13 H14 =>
 S.b (extr 1 y11 H14) fun y15 H16 =>
 S.b (C 19 [y5, y13] H16) fun y17 H18 =>
 S.b (gd (wd y17 true) (some (y7, H18)) H18) fun y19 H20 =>
 S.b (gd (wd y17 true) (some (y15, H20)) H20) fun y21 H22 =>
 S.b (gd (wd y17 true) (up (binB Tryd.prog .eql 28 y19 y21) H22) H22) fun y23 H24 =>
 S.b (pickV y17 y23 (.bool false) H24) fun y25 H26 =>
 S.b (gd (wd y25 true) (C 8 [] H26) H26) fun y27 H28 =>
 S.b (pickV y25 y27 (.bool false) H28) fun y29 H30 =>
 some (y29, H30)

theorem f17_main (S : Seam (Value × Heap)) (C : CallF) (n : Nat) (x0 : Value) (x1 : Value) (H : Heap) : acodeK S Tryd.prog C n 34 f17_c (env0 [x0, x1]) H (fin Tryd.prog Tryd.f17) = f17 S C n x0 x1 H := by
  kernel_rfl


theorem f17_eq {gl : Bool} {E : Ext} (hE : E 17 = none) (n : Nat) (x0 : Value) (x1 : Value) (H : Heap) : acall Tryd.prog gl E (n + 1) 17 [x0, x1] H = f17 real (acall Tryd.prog gl E n) n x0 x1 H :=
  (acall_eq (N := 34) Tryd.func17 (by kernel_rfl) (by kernel_rfl) hE (okgl f17_c (by kernel_rfl)) (by kernel_rfl)).trans (f17_main real _ n x0 x1 H)

/-! incunable/incunablelaw16.chapter -/
noncomputable def f18_c : Code := (Tryd.f18.body).getD .skip

noncomputable def f18 (S : Seam (Value × Heap)) (C : CallF) (n : Nat) (H : Heap) : Option (Value × Heap) :=
 S.b (bldS 1 2 [(.string ⟨#[]⟩)] [(0, 1, (.string ⟨#[98]⟩)), (1, 1, (.string ⟨#[99]⟩))] H) fun y1 H2 =>
 S.b (bld [(.string ⟨#[]⟩), (.slice none 0 0)] [(0, 1, (.string ⟨#[97]⟩)), (1, 1, y1)] H2) fun y3 H4 =>
 S.b (bldS 1 1 [(.string ⟨#[]⟩)] [(0, 1, (.string ⟨#[100]⟩))] H4) fun y5 H6 =>
 S.b (bld [(.string ⟨#[]⟩), (.slice none 0 0)] [(0, 1, (.string ⟨#[98]⟩)), (1, 1, y5)] H6) fun y7 H8 =>
 S.b (bldS 1 1 [(.string ⟨#[]⟩)] [(0, 1, (.string ⟨#[100]⟩))] H8) fun y9 H10 =>
 S.b (bld [(.string ⟨#[]⟩), (.slice none 0 0)] [(0, 1, (.string ⟨#[99]⟩)), (1, 1, y9)] H10) fun y11 H12 =>
 S.b (bld [(.string ⟨#[]⟩), (.slice none 0 0)] [(0, 1, (.string ⟨#[100]⟩))] H12) fun y13 H14 =>
 S.b (bldS 1 1 [(.string ⟨#[]⟩)] [(0, 1, (.string ⟨#[101]⟩))] H14) fun y15 H16 =>
 S.b (bld [(.string ⟨#[]⟩), (.slice none 0 0)] [(0, 1, (.string ⟨#[101]⟩)), (1, 1, y15)] H16) fun y17 H18 =>
 S.b (bldS 1 1 [(.string ⟨#[]⟩)] [(0, 1, (.string ⟨#[120]⟩))] H18) fun y19 H20 =>
 S.b (bld [(.string ⟨#[]⟩), (.slice none 0 0)] [(0, 1, (.string ⟨#[102]⟩)), (1, 1, y19)] H20) fun y21 H22 =>
 S.b (bldS 2 6 [(.string ⟨#[]⟩), (.slice none 0 0)] [(0, 2, y3), (2, 2, y7), (4, 2, y11), (6, 2, y13), (8, 2, y17), (10, 2, y21)] H22) fun y23 H24 =>
 some (y23, H24)

theorem f18_main (S : Seam (Value × Heap)) (C : CallF) (n : Nat) (H : Heap) : acodeK S Tryd.prog C n 13 f18_c (env0 []) H (fin Tryd.prog Tryd.f18) = f18 S C n H := by
  kernel_rfl


theorem f18_eq {gl : Bool} {E : Ext} (hE : E 18 = none) (n : Nat) (H : Heap) : acall Tryd.prog gl E (n + 1) 18 [] H = f18 real (acall Tryd.prog gl E n) n H :=
  (acall_eq (N := 13) Tryd.func18 (by kernel_rfl) (by kernel_rfl) hE (okgl f18_c (by kernel_rfl)) (by kernel_rfl)).trans (f18_main real _ n H)

/-! incunable/incunableref00.EqInts -/
noncomputable def f19_c : Code := (Tryd.f19.body).getD .skip

noncomputable def f19_L0 (S : Seam (Value × Heap)) (C : CallF) (n : Nat) : Nat → Value → Value → Value → Heap → Option (Value × Heap)
 | 0, _, _, _, _ => none
 | m + 1, y7, y8, y9, H10 =>
   S.b (up (lenS y7) H10) fun y11 H12 =>
   S.b (up (binB Tryd.prog .lss 3 y9 y11) H12) fun y13 H14 =>
   S.i y13
   (S.b (up (iAddrS 1 y7 y9) H14) fun y15 H16 =>
    S.c true (S.b (ldC y15 H16) fun y17 H18 =>
    S.b (up (iAddrS 1 y8 y9) H18) fun y19 H20 =>
    S.c true (S.b (ldC y19 H20) fun y21 H22 =>
    S.b (up (binB Tryd.prog .neq 3 y17 y21) H22) fun y23 H24 =>
    S.i y23
    (some ((.bool false), H24))
    (S.b (up (binB Tryd.prog .add 3 y9 (.int .i64 1)) H24) fun y25 H26 =>
     f19_L0 S C n m y7 y8 y25 H26))))
   (some ((.bool true), H14))

theorem f19_L0_eq (S : Seam (Value × Heap)) (C : CallF) (n : Nat) : ∀ (m : Nat) (env : Env) (H : Heap), aloopK (acodeK S Tryd.prog C n 26 (cAt f19_c [1, 1, 0, 1, 0, 0])) m env H (kAt S Tryd.prog C n 26 f19_c [1, 1, 0, 1, 0] (fin Tryd.prog Tryd.f19)) = f19_L0 S C n m (env 0) (env 1) (env 5) H := by
  intro m env H
  refine aloopK_eq (L := fun m env H => f19_L0 S C n m (env 0) (env 1) (env 5) H) (fun env H => rfl) (fun m env H => ?_) m env H
  kernel_rfl


noncomputable def f19 (S : Seam (Value × Heap)) (C : CallF) (n : Nat) (x0 : Value) (x1 : Value) (H : Heap) : Option (Value × Heap) :=
 S.b (up (lenS x0) H) fun y1 H2 =>
 S.b (up (lenS x1) H2) fun y3 H4 =>
 S.b (up (binB Tryd.prog .neq 3 y1 y3) H4) fun y5 H6 =>
 S.i y5
 (some ((.bool false), H6))
 (f19_L0 S C n n x0 x1 (.int .i64 0) H6)

noncomputable def f19G (S : Seam (Value × Heap)) (C : CallF) (n : Nat) (P0 : Env → Heap → Option (Value × Heap)) (x0 : Value) (x1 : Value) (H : Heap) : Option (Value × Heap) :=
 S.b (up (lenS x0) H) fun y27 H28 =>
 S.b (up (lenS x1) H28) fun y29 H30 =>
 S.b (up (binB Tryd.prog .neq 3 y27 y29) H30) fun y31 H32 =>
 S.i y31
 (some ((.bool false), H32))
 (P0 (putE 26 (putE 26 (putE 26 (putE 26 (putE 26 (putE 26 (putE 26 (env0 [x0, x1]) (some 4) (.bool false)) (some 6) x0) (some 7) y27) (some 8) x1) (some 9) y29) (some 10) y31) (some 5) (.int .i64 0)) H32)

theorem f19_main (S : Seam (Value × Heap)) (C : CallF) (n : Nat) (x0 : Value) (x1 : Value) (H : Heap) : acodeK S Tryd.prog C n 26 f19_c (env0 [x0, x1]) H (fin Tryd.prog Tryd.f19) = f19 S C n x0 x1 H := by
  have h1 : acodeK S Tryd.prog C n 26 f19_c (env0 [x0, x1]) H (fin Tryd.prog Tryd.f19) = f19G S C n (fun env H => aloopK (acodeK S Tryd.prog C n 26 (cAt f19_c [1, 1, 0, 1, 0, 0])) n env H (kAt S Tryd.prog C n 26 f19_c [1, 1, 0, 1, 0] (fin Tryd.prog Tryd.f19))) x0 x1 H := by kernel_rfl
  have e0 : (fun env H => aloopK (acodeK S Tryd.prog C n 26 (cAt f19_c [1, 1, 0, 1, 0, 0])) n env H (kAt S Tryd.prog C n 26 f19_c [1, 1, 0, 1, 0] (fin Tryd.prog Tryd.f19))) = (fun env H => f19_L0 S C n n (env 0) (env 1) (env 5) H) := by funext env H; exact f19_L0_eq S C n n env H
  rw [e0] at h1
  exact h1.trans (by kernel_rfl)


theorem f19_eq {gl : Bool} {E : Ext} (hE : E 19 = none) (n : Nat) (x0 : Value) (x1 : Value) (H : Heap) : acall Tryd.prog gl E (n + 1) 19 [x0, x1] H = f19 real (acall Tryd.prog gl E n) n x0 x1 H :=
  (acall_eq (N := 26) Tryd.func19 (by kernel_rfl) (by kernel_rfl) hE (okgl f19_c (by kernel_rfl)) (by kernel_rfl)).trans (f19_main real _ n x0 x1 H)

/-! incunable/incunablelaw16.fails -/
noncomputable def f20_c : Code := (Tryd.f20.body).getD .skip

noncomputable def f20 (S : Seam (Value × Heap)) (C : CallF) (n : Nat) (x0 : Value) (x1 : Value) (x2 : Value) (H : Heap) : Option (Value × Heap) :=
 S.b (C 18 [] H) fun y1 H2 =>
 S.b (C 10 [x0, y1] H2) fun y3 H4 =>
 S.b (extr 0 y3 H4) fun y5 H6 =>
 S.b (extr 1 y3 H6) fun y7 H8 =>
 S.b (extr 2 y3 H8) fun y9 H10 =>
 S.b (up (lenS y5) H10) fun y11 H12 =>
 S.b (up (binB Tryd.prog .eql 3 y11 (.int .i64 0)) H12) fun y13 H14 =>
 S.b (gd (wd y13 true) (some (y7, H14)) H14) fun y15 H16 =>
 S.b (gd (wd y13 true) (some (x1, H16)) H16) fun y17 H18 =>
 S.b (gd (wd y13 true) (up (binB Tryd.prog .eql 9 y15 y17) H18) H18) fun y19 H20 =>
 S.b (pickV y13 y19 (.bool false) H20) fun y21 H22 =>
 S.b (gd (wd y21 true) (some (y9, H22)) H22) fun y23 H24 =>
 S.b (gd (wd y21 true) (some (x2, H24)) H24) fun y25 H26 =>
 S.b (gd (wd y21 true) (up (binB Tryd.prog .eql 28 y23 y25) H26) H26) fun y27 H28 =>
 S.b (pickV y21 y27 (.bool false) H28) fun y29 H30 =>
 some (y29, H30)

theorem f20_main (S : Seam (Value × Heap)) (C : CallF) (n : Nat) (x0 : Value) (x1 : Value) (x2 : Value) (H : Heap) : acodeK S Tryd.prog C n 30 f20_c (env0 [x0, x1, x2]) H (fin Tryd.prog Tryd.f20) = f20 S C n x0 x1 x2 H := by
  kernel_rfl


theorem f20_eq {gl : Bool} {E : Ext} (hE : E 20 = none) (n : Nat) (x0 : Value) (x1 : Value) (x2 : Value) (H : Heap) : acall Tryd.prog gl E (n + 1) 20 [x0, x1, x2] H = f20 real (acall Tryd.prog gl E n) n x0 x1 x2 H :=
  (acall_eq (N := 30) Tryd.func20 (by kernel_rfl) (by kernel_rfl) hE (okgl f20_c (by kernel_rfl)) (by kernel_rfl)).trans (f20_main real _ n x0 x1 x2 H)

/-! incunable/imports.begin -/
noncomputable def f21_c : Code := (Tryd.f21.body).getD .skip

noncomputable def f21_L0 (S : Seam (Value × Heap)) (C : CallF) (n : Nat) : Nat → Value → Value → Value → Value → Value → Heap → Option (Value × Heap)
 | 0, _, _, _, _, _, _ => none
 | m + 1, y17, y18, y19, y20, y21, H22 =>
   S.b (up (binB Tryd.prog .lss 3 y21 y20) H22) fun y23 H24 =>
   S.i y23
   (S.b (up (iAddrS 2 y19 y21) H24) fun y25 H26 =>
    S.b (ldA 2 y25 H26) fun y27 H28 =>
    S.b (newV [(.string ⟨#[]⟩), (.slice none 0 0)] H28) fun y29 H30 =>
    S.b (stV 2 y29 y27 H30) fun _ H31 =>
    S.b (nilC y18 H31) fun y32 H33 =>
    S.b (up (fAddr 1 y32) H33) fun y34 H35 =>
    S.c true (S.b (ldC y34 H35) fun y36 H37 =>
    S.b (up (fAddr 0 y29) H37) fun y38 H39 =>
    S.c true (S.b (ldC y38 H39) fun y40 H41 =>
    S.b ((if keyB .string y40 then upM .string y36 y40 y21 H41 else none)) fun _ H42 =>
    S.c true (S.b (up (binB Tryd.prog .add 3 y21 (.int .i64 1)) H42) fun y43 H44 =>
     f21_L0 S C n m y17 y18 y19 y20 y43 H44))))
   (S.b (nilC y18 H24) fun y45 H46 =>
    S.b (up (fAddr 1 y45) H46) fun y47 H48 =>
    S.b (ldC y47 H48) fun y49 H50 =>
    S.b (lenM y49 H50) fun y51 H52 =>
    S.b (up (lenS y17) H52) fun y53 H54 =>
    S.b (up (binB Tryd.prog .lss 3 y51 y53) H54) fun y55 H56 =>
    S.i y55
    (some (.tuple #[(.pointer none), (.int .i64 2)], H56))
    (some (.tuple #[y18, (.int .i64 0)], H56)))

theorem f21_L0_eq (S : Seam (Value × Heap)) (C : CallF) (n : Nat) : ∀ (m : Nat) (env : Env) (H : Heap), aloopK (acodeK S Tryd.prog C n 41 (cAt f21_c [1, 1, 1, 0, 1, 0, 0])) m env H (kAt S Tryd.prog C n 41 f21_c [1, 1, 1, 0, 1, 0] (fin Tryd.prog Tryd.f21)) = f21_L0 S C n m (env 0) (env 4) (env 17) (env 18) (env 19) H := by
  intro m env H
  refine aloopK_eq (L := fun m env H => f21_L0 S C n m (env 0) (env 4) (env 17) (env 18) (env 19) H) (fun env H => rfl) (fun m env H => ?_) m env H
  kernel_rfl


noncomputable def f21 (S : Seam (Value × Heap)) (C : CallF) (n : Nat) (x0 : Value) (H : Heap) : Option (Value × Heap) :=
 S.b (up (lenS x0) H) fun y1 H2 =>
 S.b (up (binB Tryd.prog .gtr 3 y1 (.int .i64 1000)) H2) fun y3 H4 =>
 S.i y3
 (some (.tuple #[(.pointer none), (.int .i64 5)], H4))
 (S.b (mkM H4) fun y5 H6 =>
  S.b (up (lenS x0) H6) fun y7 H8 =>
  S.b (mkS 1 8 [(.int .i64 0)] y7 y7 H8) fun y9 H10 =>
  S.b (bld [(.slice none 0 0), (.map none), (.slice none 0 0), (.int .i64 0), (.slice none 0 0), (.string ⟨#[]⟩)] [(0, 1, x0), (1, 1, y5), (2, 1, y9)] H10) fun y11 H12 =>
  S.b (newV (Value.cells y11).toList H12) fun y13 H14 =>
  S.b (up (lenS x0) H14) fun y15 H16 =>
  f21_L0 S C n n x0 y13 x0 y15 (.int .i64 0) H16)

noncomputable def f21G (S : Seam (Value × Heap)) (C : CallF) (n : Nat) (P0 : Env → Heap → Option (Value × Heap)) (x0 : Value) (H : Heap) : Option (Value × Heap) :=
 S.b (up (lenS x0) H) fun y57 H58 =>
 S.b (up (binB Tryd.prog .gtr 3 y57 (.int .i64 1000)) H58) fun y59 H60 =>
 S.i y59
 (some (.tuple #[(.pointer none), (.int .i64 5)], H60))
 (S.b (mkM H60) fun y61 H62 =>
  S.b (up (lenS x0) H62) fun y63 H64 =>
  S.b (mkS 1 8 [(.int .i64 0)] y63 y63 H64) fun y65 H66 =>
  S.b (bld [(.slice none 0 0), (.map none), (.slice none 0 0), (.int .i64 0), (.slice none 0 0), (.string ⟨#[]⟩)] [(0, 1, x0), (1, 1, y61), (2, 1, y65)] H66) fun y67 H68 =>
  S.b (newV (Value.cells y67).toList H68) fun y69 H70 =>
  S.b (up (lenS x0) H70) fun y71 H72 =>
  P0 (putE 41 (putE 41 (putE 41 (putE 41 (putE 41 (putE 41 (putE 41 (putE 41 (putE 41 (putE 41 (putE 41 (putE 41 (putE 41 (putE 41 (putE 41 (putE 41 (env0 [x0]) (some 2) (.pointer none)) (some 3) (.int .i64 0)) (some 7) x0) (some 8) y57) (some 9) y59) (some 10) x0) (some 11) y61) (some 12) x0) (some 13) y63) (some 14) y65) (some 15) y67) (some 16) y69) (some 4) y69) (some 17) x0) (some 18) y71) (some 19) (.int .i64 0)) H72)

theorem f21_main (S : Seam (Value × Heap)) (C : CallF) (n : Nat) (x0 : Value) (H : Heap) : acodeK S Tryd.prog C n 41 f21_c (env0 [x0]) H (fin Tryd.prog Tryd.f21) = f21 S C n x0 H := by
  have h1 : acodeK S Tryd.prog C n 41 f21_c (env0 [x0]) H (fin Tryd.prog Tryd.f21) = f21G S C n (fun env H => aloopK (acodeK S Tryd.prog C n 41 (cAt f21_c [1, 1, 1, 0, 1, 0, 0])) n env H (kAt S Tryd.prog C n 41 f21_c [1, 1, 1, 0, 1, 0] (fin Tryd.prog Tryd.f21))) x0 H := by kernel_rfl
  have e0 : (fun env H => aloopK (acodeK S Tryd.prog C n 41 (cAt f21_c [1, 1, 1, 0, 1, 0, 0])) n env H (kAt S Tryd.prog C n 41 f21_c [1, 1, 1, 0, 1, 0] (fin Tryd.prog Tryd.f21))) = (fun env H => f21_L0 S C n n (env 0) (env 4) (env 17) (env 18) (env 19) H) := by funext env H; exact f21_L0_eq S C n n env H
  rw [e0] at h1
  exact h1.trans (by kernel_rfl)


theorem f21_eq {gl : Bool} {E : Ext} (hE : E 21 = none) (n : Nat) (x0 : Value) (H : Heap) : acall Tryd.prog gl E (n + 1) 21 [x0] H = f21 real (acall Tryd.prog gl E n) n x0 H :=
  (acall_eq (N := 41) Tryd.func21 (by kernel_rfl) (by kernel_rfl) hE (okgl f21_c (by kernel_rfl)) (by kernel_rfl)).trans (f21_main real _ n x0 H)

/-! (*incunable/imports.walk).through -/
noncomputable def f22_c : Code := (Tryd.f22.body).getD .skip

noncomputable def f22_J1 (S : Seam (Value × Heap)) (C : CallF) (n : Nat) (R0 : Value→Value→Value→Value→Value→Heap→Option (Value × Heap)) (y119 y120 y121 y122 y123 : Value) (H124 : Heap) : Option (Value × Heap) :=
 S.b (up (binB Tryd.prog .add 3 y123 (.int .i64 1)) H124) fun y125 H126 =>
 R0 y119 y120 y121 y122 y125 H126

noncomputable def f22_L0 (S : Seam (Value × Heap)) (C : CallF) (n : Nat) : Nat → Value → Value → Value → Value → Value → Heap → Option (Value × Heap)
 | 0, _, _, _, _, _, _ => none
 | m + 1, y59, y60, y61, y62, y63, H64 =>
   S.b (up (binB Tryd.prog .lss 3 y63 y62) H64) fun y65 H66 =>
   S.i y65
   (S.b (up (iAddrS 1 y61 y63) H66) fun y67 H68 =>
    S.b (ldC y67 H68) fun y69 H70 =>
    S.b (nilC y59 H70) fun y71 H72 =>
    S.b (up (fAddr 1 y71) H72) fun y73 H74 =>
    S.b (ldC y73 H74) fun y75 H76 =>
    S.b ((if keyB .string y69 then lkM .string (.int .i64 0) true y75 y69 H76 else none)) fun y77 H78 =>
    S.b (extr 0 y77 H78) fun y79 H80 =>
    S.b (extr 1 y77 H80) fun y81 H82 =>
    S.b (up (unB .not y81) H82) fun y83 H84 =>
    S.i y83
    (S.b (C 29 [y59, y69, (.int .i64 160)] H84) fun y85 H86 =>
     some (y85, H86))
    (S.b (nilC y59 H84) fun y87 H88 =>
     S.b (up (fAddr 2 y87) H88) fun y89 H90 =>
     S.b (ldC y89 H90) fun y91 H92 =>
     S.b (up (iAddrS 1 y91 y79) H92) fun y93 H94 =>
     S.b (ldC y93 H94) fun y95 H96 =>
     S.b (up (binB Tryd.prog .eql 3 y95 (.int .i64 1)) H96) fun y97 H98 =>
     S.i y97
     (S.b (C 29 [y59, y69, (.int .i64 161)] H98) fun y99 H100 =>
      some (y99, H100))
     (S.b (nilC y59 H98) fun y101 H102 =>
      S.b (up (fAddr 2 y101) H102) fun y103 H104 =>
      S.b (ldC y103 H104) fun y105 H106 =>
      S.b (up (iAddrS 1 y105 y79) H106) fun y107 H108 =>
      S.b (ldC y107 H108) fun y109 H110 =>
      S.b (up (binB Tryd.prog .eql 3 y109 (.int .i64 2)) H110) fun y111 H112 =>
      S.i y111
      (f22_J1 S C n (f22_L0 S C n m) y59 y60 y61 y62 y63 H112)
      (S.b (C 22 [y59, y79] H112) fun y127 H128 =>
       S.b (up (binB Tryd.prog .neq 28 y127 (.int .i64 0)) H128) fun y129 H130 =>
       S.i y129
       (some (y127, H130))
       (f22_J1 S C n (f22_L0 S C n m) y59 y60 y61 y62 y63 H130)))))
   (S.b (nilC y59 H66) fun y131 H132 =>
    S.b (up (fAddr 2 y131) H132) fun y133 H134 =>
    S.c true (S.b (ldC y133 H134) fun y135 H136 =>
    S.b (nilC y59 H136) fun y137 H138 =>
    S.b (up (fAddr 4 y137) H138) fun y139 H140 =>
    S.c true (S.b (ldC y139 H140) fun y141 H142 =>
    S.b (bldS 1 1 [(.int .i64 0)] [(0, 1, y60)] H142) fun y143 H144 =>
    S.b (app 1 8 y141 y143 H144) fun y145 H146 =>
    S.c (sameBlk H144 H146 (blkOf y133) && true) (S.b (up (iAddrS 1 y135 y60) H146) fun y147 H148 =>
     S.b (stV 1 y147 (.int .i64 2) H148) fun _ H149 =>
     S.c true (S.b (nilC y59 H149) fun y150 H151 =>
      S.b (up (fAddr 4 y150) H151) fun y152 H153 =>
      S.b (stV 1 y152 y145 H153) fun _ H154 =>
      S.c true (some ((.int .i64 0), H154)))))))

theorem f22_L0_eq (S : Seam (Value × Heap)) (C : CallF) (n : Nat) : ∀ (m : Nat) (env : Env) (H : Heap), aloopK (acodeK S Tryd.prog C n 110 (cAt f22_c [1, 1, 1, 1, 0, 1, 0, 0])) m env H (kAt S Tryd.prog C n 110 f22_c [1, 1, 1, 1, 0, 1, 0] (fin Tryd.prog Tryd.f22)) = f22_L0 S C n m (env 0) (env 1) (env 45) (env 46) (env 47) H := by
  intro m env H
  refine aloopK_eq (L := fun m env H => f22_L0 S C n m (env 0) (env 1) (env 45) (env 46) (env 47) H) (fun env H => rfl) (fun m env H => ?_) m env H
  kernel_rfl


noncomputable def f22 (S : Seam (Value × Heap)) (C : CallF) (n : Nat) (x0 : Value) (x1 : Value) (H : Heap) : Option (Value × Heap) :=
 S.b (nilC x0 H) fun y1 H2 =>
 S.b (up (fAddr 3 y1) H2) fun y3 H4 =>
 S.b (ldC y3 H4) fun y5 H6 =>
 S.b (up (binB Tryd.prog .eql 3 y5 (.int .i64 32)) H6) fun y7 H8 =>
 S.i y7
 (S.b (nilC x0 H8) fun y9 H10 =>
  S.b (up (fAddr 0 y9) H10) fun y11 H12 =>
  S.b (ldC y11 H12) fun y13 H14 =>
  S.b (up (iAddrS 2 y13 x1) H14) fun y15 H16 =>
  S.b (up (fAddr 0 y15) H16) fun y17 H18 =>
  S.b (ldC y17 H18) fun y19 H20 =>
  S.b (C 29 [x0, y19, (.int .i64 5)] H20) fun y21 H22 =>
  some (y21, H22))
 (S.b (nilC x0 H8) fun y23 H24 =>
  S.b (up (fAddr 3 y23) H24) fun y25 H26 =>
  S.b (ldC y25 H26) fun y27 H28 =>
  S.b (up (binB Tryd.prog .add 3 y27 (.int .i64 1)) H28) fun y29 H30 =>
  S.b (nilC x0 H30) fun y31 H32 =>
  S.b (up (fAddr 3 y31) H32) fun y33 H34 =>
  S.b (stV 1 y33 y29 H34) fun _ H35 =>
  S.b (nilC x0 H35) fun y36 H37 =>
  S.b (up (fAddr 2 y36) H37) fun y38 H39 =>
  S.b (ldC y38 H39) fun y40 H41 =>
  S.b (up (iAddrS 1 y40 x1) H41) fun y42 H43 =>
  S.b (stV 1 y42 (.int .i64 1) H43) fun _ H44 =>
  S.b (nilC x0 H44) fun y45 H46 =>
  S.b (up (fAddr 0 y45) H46) fun y47 H48 =>
  S.b (ldC y47 H48) fun y49 H50 =>
  S.b (up (iAddrS 2 y49 x1) H50) fun y51 H52 =>
  S.b (up (fAddr 1 y51) H52) fun y53 H54 =>
  S.b (ldC y53 H54) fun y55 H56 =>
  S.b (up (lenS y55) H56) fun y57 H58 =>
  f22_L0 S C n n x0 x1 y55 y57 (.int .i64 0) H58)

noncomputable def f22G (S : Seam (Value × Heap)) (C : CallF) (n : Nat) (P0 : Env → Heap → Option (Value × Heap)) (x0 : Value) (x1 : Value) (H : Heap) : Option (Value × Heap) :=
 S.b (nilC x0 H) fun y155 H156 =>
 S.b (up (fAddr 3 y155) H156) fun y157 H158 =>
 S.b (ldC y157 H158) fun y159 H160 =>
 S.b (up (binB Tryd.prog .eql 3 y159 (.int .i64 32)) H160) fun y161 H162 =>
 S.i y161
 (S.b (nilC x0 H162) fun y163 H164 =>
  S.b (up (fAddr 0 y163) H164) fun y165 H166 =>
  S.b (ldC y165 H166) fun y167 H168 =>
  S.b (up (iAddrS 2 y167 x1) H168) fun y169 H170 =>
  S.b (up (fAddr 0 y169) H170) fun y171 H172 =>
  S.b (ldC y171 H172) fun y173 H174 =>
  S.b (C 29 [x0, y173, (.int .i64 5)] H174) fun y175 H176 =>
  some (y175, H176))
 (S.b (nilC x0 H162) fun y177 H178 =>
  S.b (up (fAddr 3 y177) H178) fun y179 H180 =>
  S.b (ldC y179 H180) fun y181 H182 =>
  S.b (up (binB Tryd.prog .add 3 y181 (.int .i64 1)) H182) fun y183 H184 =>
  S.b (nilC x0 H184) fun y185 H186 =>
  S.b (up (fAddr 3 y185) H186) fun y187 H188 =>
  S.b (stV 1 y187 y183 H188) fun u189 H190 =>
  S.b (nilC x0 H190) fun y191 H192 =>
  S.b (up (fAddr 2 y191) H192) fun y193 H194 =>
  S.b (ldC y193 H194) fun y195 H196 =>
  S.b (up (iAddrS 1 y195 x1) H196) fun y197 H198 =>
  S.b (stV 1 y197 (.int .i64 1) H198) fun u199 H200 =>
  S.b (nilC x0 H200) fun y201 H202 =>
  S.b (up (fAddr 0 y201) H202) fun y203 H204 =>
  S.b (ldC y203 H204) fun y205 H206 =>
  S.b (up (iAddrS 2 y205 x1) H206) fun y207 H208 =>
  S.b (up (fAddr 1 y207) H208) fun y209 H210 =>
  S.b (ldC y209 H210) fun y211 H212 =>
  S.b (up (lenS y211) H212) fun y213 H214 =>
  P0 (putE 110 (putE 110 (putE 110 (putE 110 (putE 110 (putE 110 (putE 110 (putE 110 (putE 110 (putE 110 (putE 110 (putE 110 (putE 110 (putE 110 (putE 110 (putE 110 (putE 110 (putE 110 (putE 110 (putE 110 (putE 110 (putE 110 (putE 110 (putE 110 (putE 110 (putE 110 (putE 110 (putE 110 (putE 110 (putE 110 (putE 110 (env0 [x0, x1]) (some 4) (.int .i64 0)) (some 10) x0) (some 11) y155) (some 12) y157) (some 13) y159) (some 14) y161) (some 25) x0) (some 26) y177) (some 27) y179) (some 28) y181) (some 29) y183) (some 30) y185) (some 31) y187) none u189) (some 32) x0) (some 33) y191) (some 34) y193) (some 35) y195) (some 36) x1) (some 37) y197) none u199) (some 38) x0) (some 39) y201) (some 40) y203) (some 41) y205) (some 42) x1) (some 43) y207) (some 44) y209) (some 45) y211) (some 46) y213) (some 47) (.int .i64 0)) H214)

theorem f22_main (S : Seam (Value × Heap)) (C : CallF) (n : Nat) (x0 : Value) (x1 : Value) (H : Heap) : acodeK S Tryd.prog C n 110 f22_c (env0 [x0, x1]) H (fin Tryd.prog Tryd.f22) = f22 S C n x0 x1 H := by
  have h1 : acodeK S Tryd.prog C n 110 f22_c (env0 [x0, x1]) H (fin Tryd.prog Tryd.f22) = f22G S C n (fun env H => aloopK (acodeK S Tryd.prog C n 110 (cAt f22_c [1, 1, 1, 1, 0, 1, 0, 0])) n env H (kAt S Tryd.prog C n 110 f22_c [1, 1, 1, 1, 0, 1, 0] (fin Tryd.prog Tryd.f22))) x0 x1 H := by kernel_rfl
  have e0 : (fun env H => aloopK (acodeK S Tryd.prog C n 110 (cAt f22_c [1, 1, 1, 1, 0, 1, 0, 0])) n env H (kAt S Tryd.prog C n 110 f22_c [1, 1, 1, 1, 0, 1, 0] (fin Tryd.prog Tryd.f22))) = (fun env H => f22_L0 S C n n (env 0) (env 1) (env 45) (env 46) (env 47) H) := by funext env H; exact f22_L0_eq S C n n env H
  rw [e0] at h1
  exact h1.trans (by kernel_rfl)


theorem f22_eq {gl : Bool} {E : Ext} (hE : E 22 = none) (n : Nat) (x0 : Value) (x1 : Value) (H : Heap) : acall Tryd.prog gl E (n + 1) 22 [x0, x1] H = f22 real (acall Tryd.prog gl E n) n x0 x1 H :=
  (acall_eq (N := 110) Tryd.func22 (by kernel_rfl) (by kernel_rfl) hE (okgl f22_c (by kernel_rfl)) (by kernel_rfl)).trans (f22_main real _ n x0 x1 H)

/-! incunable/incunablelaw16.entries -/
noncomputable def f25_c : Code := (Tryd.f25.body).getD .skip

noncomputable def f25_L0 (S : Seam (Value × Heap)) (C : CallF) (n : Nat) : Nat → Value → Value → Value → Heap → Option (Value × Heap)
 | 0, _, _, _, _ => none
 | m + 1, y1, y2, y3, H4 =>
   S.b (up (lenS y1) H4) fun y5 H6 =>
   S.b (up (binB Tryd.prog .lss 3 y3 y5) H6) fun y7 H8 =>
   S.b (gd (wd y7 true) (some (y3, H8)) H8) fun y9 H10 =>
   S.b (gd (wd y7 true) (up (binB Tryd.prog .lss 3 y9 (.int .i64 60)) H10) H10) fun y11 H12 =>
   S.b (pickV y7 y11 (.bool false) H12) fun y13 H14 =>
   S.i y13
   (S.b (up (iAddrS 2 y1 y3) H14) fun y15 H16 =>
    S.b (up (fAddr 0 y15) H16) fun y17 H18 =>
    S.b (ldC y17 H18) fun y19 H20 =>
    S.b (bld [(.string ⟨#[]⟩), (.slice none 0 0)] [(0, 1, y19)] H20) fun y21 H22 =>
    S.b (newV [(.string ⟨#[]⟩), (.slice none 0 0)] H22) fun y23 H24 =>
    S.b (stV 2 y23 y21 H24) fun _ H25 =>
    S.b (up (fAddr 1 y23) H25) fun y26 H27 =>
    S.c true (S.b (ldC y26 H27) fun y28 H29 =>
    S.b (up (iAddrS 2 y1 y3) H29) fun y30 H31 =>
    S.b (up (fAddr 1 y30) H31) fun y32 H33 =>
    S.c true (S.b (ldC y32 H33) fun y34 H35 =>
    S.b (up (iAddrS 2 y1 y3) H35) fun y36 H37 =>
    S.b (up (fAddr 1 y36) H37) fun y38 H39 =>
    S.c true (S.b (ldC y38 H39) fun y40 H41 =>
    S.b (up (lenS y40) H41) fun y42 H43 =>
    S.b (minV y42 (.int .i64 40) H43) fun y44 H45 =>
    S.b (up (slcS 1 y34 none (some y44) none) H45) fun y46 H47 =>
    S.b (app 1 16 y28 y46 H47) fun y48 H49 =>
    S.c true (S.b (up (fAddr 1 y23) H49) fun y50 H51 =>
     S.b (stV 1 y50 y48 H51) fun _ H52 =>
     S.c true (S.b (ldA 2 y23 H52) fun y53 H54 =>
      S.b (bldS 2 1 [(.string ⟨#[]⟩), (.slice none 0 0)] [(0, 2, y53)] H54) fun y55 H56 =>
      S.b (app 2 40 y2 y55 H56) fun y57 H58 =>
      S.b (up (binB Tryd.prog .add 3 y3 (.int .i64 1)) H58) fun y59 H60 =>
      f25_L0 S C n m y1 y57 y59 H60))))))
   (some (y2, H14))

theorem f25_L0_eq (S : Seam (Value × Heap)) (C : CallF) (n : Nat) : ∀ (m : Nat) (env : Env) (H : Heap), aloopK (acodeK S Tryd.prog C n 44 (cAt f25_c [1, 1, 0, 1, 0, 0])) m env H (kAt S Tryd.prog C n 44 f25_c [1, 1, 0, 1, 0] (fin Tryd.prog Tryd.f25)) = f25_L0 S C n m (env 0) (env 3) (env 4) H := by
  intro m env H
  refine aloopK_eq (L := fun m env H => f25_L0 S C n m (env 0) (env 3) (env 4) H) (fun env H => rfl) (fun m env H => ?_) m env H
  kernel_rfl


noncomputable def f25 (S : Seam (Value × Heap)) (C : CallF) (n : Nat) (x0 : Value) (H : Heap) : Option (Value × Heap) :=
 f25_L0 S C n n x0 (.slice none 0 0) (.int .i64 0) H

noncomputable def f25G (S : Seam (Value × Heap)) (C : CallF) (n : Nat) (P0 : Env → Heap → Option (Value × Heap)) (x0 : Value) (H : Heap) : Option (Value × Heap) :=
 P0 (putE 44 (putE 44 (putE 44 (env0 [x0]) (some 2) (.slice none 0 0)) (some 3) (.slice none 0 0)) (some 4) (.int .i64 0)) H

theorem f25_main (S : Seam (Value × Heap)) (C : CallF) (n : Nat) (x0 : Value) (H : Heap) : acodeK S Tryd.prog C n 44 f25_c (env0 [x0]) H (fin Tryd.prog Tryd.f25) = f25 S C n x0 H := by
  have h1 : acodeK S Tryd.prog C n 44 f25_c (env0 [x0]) H (fin Tryd.prog Tryd.f25) = f25G S C n (fun env H => aloopK (acodeK S Tryd.prog C n 44 (cAt f25_c [1, 1, 0, 1, 0, 0])) n env H (kAt S Tryd.prog C n 44 f25_c [1, 1, 0, 1, 0] (fin Tryd.prog Tryd.f25))) x0 H := by kernel_rfl
  have e0 : (fun env H => aloopK (acodeK S Tryd.prog C n 44 (cAt f25_c [1, 1, 0, 1, 0, 0])) n env H (kAt S Tryd.prog C n 44 f25_c [1, 1, 0, 1, 0] (fin Tryd.prog Tryd.f25))) = (fun env H => f25_L0 S C n n (env 0) (env 3) (env 4) H) := by funext env H; exact f25_L0_eq S C n n env H
  rw [e0] at h1
  exact h1.trans (by kernel_rfl)


theorem f25_eq {gl : Bool} {E : Ext} (hE : E 25 = none) (n : Nat) (x0 : Value) (H : Heap) : acall Tryd.prog gl E (n + 1) 25 [x0] H = f25 real (acall Tryd.prog gl E n) n x0 H :=
  (acall_eq (N := 44) Tryd.func25 (by kernel_rfl) (by kernel_rfl) hE (okgl f25_c (by kernel_rfl)) (by kernel_rfl)).trans (f25_main real _ n x0 H)

/-! incunable/incunableref16.Order -/
noncomputable def f26_c : Code := (Tryd.f26.body).getD .skip

noncomputable def f26 (S : Seam (Value × Heap)) (C : CallF) (n : Nat) (x0 : Value) (x1 : Value) (H : Heap) : Option (Value × Heap) :=
 S.b (C 33 [x1] H) fun y1 H2 =>
 S.b (up (binB Tryd.prog .neq 28 y1 (.int .i64 0)) H2) fun y3 H4 =>
 S.i y3
 (some (.tuple #[(.slice none 0 0), (.string ⟨#[]⟩), y1], H4))
 (S.b (C 34 [x1, x0] H4) fun y5 H6 =>
  S.b (up (binB Tryd.prog .lss 3 y5 (.int .i64 0)) H6) fun y7 H8 =>
  S.i y7
  (some (.tuple #[(.slice none 0 0), x0, (.int .i64 160)], H8))
  (S.b (up (lenS x1) H8) fun y9 H10 =>
   S.b (mkS 1 1 [(.bool false)] y9 y9 H10) fun y11 H12 =>
   S.b (up (lenS x1) H12) fun y13 H14 =>
   S.b (mkS 1 1 [(.bool false)] y13 y13 H14) fun y15 H16 =>
   S.b (bld [(.slice none 0 0), (.slice none 0 0), (.slice none 0 0), (.int .i64 0), (.slice none 0 0), (.string ⟨#[]⟩), (.int .i64 0)] [(0, 1, x1), (1, 1, y11), (2, 1, y15)] H16) fun y17 H18 =>
   S.b (newV (Value.cells y17).toList H18) fun y19 H20 =>
   S.b (C 35 [y19, y5] H20) fun y21 H22 =>
   S.b (nilC y19 H22) fun y23 H24 =>
   S.b (up (fAddr 6 y23) H24) fun y25 H26 =>
   S.b (ldC y25 H26) fun y27 H28 =>
   S.b (up (binB Tryd.prog .neq 28 y27 (.int .i64 0)) H28) fun y29 H30 =>
   S.i y29
   (S.b (nilC y19 H30) fun y31 H32 =>
    S.b (up (fAddr 5 y31) H32) fun y33 H34 =>
    S.c true (S.b (ldC y33 H34) fun y35 H36 =>
    S.b (nilC y19 H36) fun y37 H38 =>
    S.b (up (fAddr 6 y37) H38) fun y39 H40 =>
    S.c true (S.b (ldC y39 H40) fun y41 H42 =>
    some (.tuple #[(.slice none 0 0), y35, y41], H42))))
   (S.b (nilC y19 H30) fun y43 H44 =>
    S.b (up (fAddr 4 y43) H44) fun y45 H46 =>
    S.b (ldC y45 H46) fun y47 H48 =>
    some (.tuple #[y47, (.string ⟨#[]⟩), (.int .i64 0)], H48))))

theorem f26_main (S : Seam (Value × Heap)) (C : CallF) (n : Nat) (x0 : Value) (x1 : Value) (H : Heap) : acodeK S Tryd.prog C n 50 f26_c (env0 [x0, x1]) H (fin Tryd.prog Tryd.f26) = f26 S C n x0 x1 H := by
  kernel_rfl


theorem f26_eq {gl : Bool} {E : Ext} (hE : E 26 = none) (n : Nat) (x0 : Value) (x1 : Value) (H : Heap) : acall Tryd.prog gl E (n + 1) 26 [x0, x1] H = f26 real (acall Tryd.prog gl E n) n x0 x1 H :=
  (acall_eq (N := 50) Tryd.func26 (by kernel_rfl) (by kernel_rfl) hE (okgl f26_c (by kernel_rfl)) (by kernel_rfl)).trans (f26_main real _ n x0 x1 H)

/-! incunable/incunablelaw16.cut -/
noncomputable def f27_c : Code := (Tryd.f27.body).getD .skip

noncomputable def f27_L0 (S : Seam (Value × Heap)) (C : CallF) (n : Nat) : Nat → Value → Value → Value → Heap → Option (Value × Heap)
 | 0, _, _, _, _ => none
 | m + 1, y1, y2, y3, H4 =>
   S.b (up (lenS y1) H4) fun y5 H6 =>
   S.b (up (binB Tryd.prog .lss 3 y3 y5) H6) fun y7 H8 =>
   S.b (gd (wd y7 true) (some (y3, H8)) H8) fun y9 H10 =>
   S.b (gd (wd y7 true) (up (binB Tryd.prog .lss 3 y9 (.int .i64 60)) H10) H10) fun y11 H12 =>
   S.b (pickV y7 y11 (.bool false) H12) fun y13 H14 =>
   S.i y13
   (S.b (up (iAddrS 2 y1 y3) H14) fun y15 H16 =>
    S.b (up (fAddr 0 y15) H16) fun y17 H18 =>
    S.b (ldC y17 H18) fun y19 H20 =>
    S.b (bld [(.string ⟨#[]⟩), (.slice none 0 0)] [(0, 1, y19)] H20) fun y21 H22 =>
    S.b (newV [(.string ⟨#[]⟩), (.slice none 0 0)] H22) fun y23 H24 =>
    S.b (stV 2 y23 y21 H24) fun _ H25 =>
    S.b (up (fAddr 1 y23) H25) fun y26 H27 =>
    S.c true (S.b (ldC y26 H27) fun y28 H29 =>
    S.b (up (iAddrS 2 y1 y3) H29) fun y30 H31 =>
    S.b (up (fAddr 1 y30) H31) fun y32 H33 =>
    S.c true (S.b (ldC y32 H33) fun y34 H35 =>
    S.b (up (iAddrS 2 y1 y3) H35) fun y36 H37 =>
    S.b (up (fAddr 1 y36) H37) fun y38 H39 =>
    S.c true (S.b (ldC y38 H39) fun y40 H41 =>
    S.b (up (lenS y40) H41) fun y42 H43 =>
    S.b (minV y42 (.int .i64 40) H43) fun y44 H45 =>
    S.b (up (slcS 1 y34 none (some y44) none) H45) fun y46 H47 =>
    S.b (app 1 16 y28 y46 H47) fun y48 H49 =>
    S.c true (S.b (up (fAddr 1 y23) H49) fun y50 H51 =>
     S.b (stV 1 y50 y48 H51) fun _ H52 =>
     S.c true (S.b (ldA 2 y23 H52) fun y53 H54 =>
      S.b (bldS 2 1 [(.string ⟨#[]⟩), (.slice none 0 0)] [(0, 2, y53)] H54) fun y55 H56 =>
      S.b (app 2 40 y2 y55 H56) fun y57 H58 =>
      S.b (up (binB Tryd.prog .add 3 y3 (.int .i64 1)) H58) fun y59 H60 =>
      f27_L0 S C n m y1 y57 y59 H60))))))
   (some (y2, H14))

theorem f27_L0_eq (S : Seam (Value × Heap)) (C : CallF) (n : Nat) : ∀ (m : Nat) (env : Env) (H : Heap), aloopK (acodeK S Tryd.prog C n 44 (cAt f27_c [1, 1, 0, 1, 0, 0])) m env H (kAt S Tryd.prog C n 44 f27_c [1, 1, 0, 1, 0] (fin Tryd.prog Tryd.f27)) = f27_L0 S C n m (env 0) (env 3) (env 4) H := by
  intro m env H
  refine aloopK_eq (L := fun m env H => f27_L0 S C n m (env 0) (env 3) (env 4) H) (fun env H => rfl) (fun m env H => ?_) m env H
  kernel_rfl


noncomputable def f27 (S : Seam (Value × Heap)) (C : CallF) (n : Nat) (x0 : Value) (H : Heap) : Option (Value × Heap) :=
 f27_L0 S C n n x0 (.slice none 0 0) (.int .i64 0) H

noncomputable def f27G (S : Seam (Value × Heap)) (C : CallF) (n : Nat) (P0 : Env → Heap → Option (Value × Heap)) (x0 : Value) (H : Heap) : Option (Value × Heap) :=
 P0 (putE 44 (putE 44 (putE 44 (env0 [x0]) (some 2) (.slice none 0 0)) (some 3) (.slice none 0 0)) (some 4) (.int .i64 0)) H

theorem f27_main (S : Seam (Value × Heap)) (C : CallF) (n : Nat) (x0 : Value) (H : Heap) : acodeK S Tryd.prog C n 44 f27_c (env0 [x0]) H (fin Tryd.prog Tryd.f27) = f27 S C n x0 H := by
  have h1 : acodeK S Tryd.prog C n 44 f27_c (env0 [x0]) H (fin Tryd.prog Tryd.f27) = f27G S C n (fun env H => aloopK (acodeK S Tryd.prog C n 44 (cAt f27_c [1, 1, 0, 1, 0, 0])) n env H (kAt S Tryd.prog C n 44 f27_c [1, 1, 0, 1, 0] (fin Tryd.prog Tryd.f27))) x0 H := by kernel_rfl
  have e0 : (fun env H => aloopK (acodeK S Tryd.prog C n 44 (cAt f27_c [1, 1, 0, 1, 0, 0])) n env H (kAt S Tryd.prog C n 44 f27_c [1, 1, 0, 1, 0] (fin Tryd.prog Tryd.f27))) = (fun env H => f27_L0 S C n n (env 0) (env 3) (env 4) H) := by funext env H; exact f27_L0_eq S C n n env H
  rw [e0] at h1
  exact h1.trans (by kernel_rfl)


theorem f27_eq {gl : Bool} {E : Ext} (hE : E 27 = none) (n : Nat) (x0 : Value) (H : Heap) : acall Tryd.prog gl E (n + 1) 27 [x0] H = f27 real (acall Tryd.prog gl E n) n x0 H :=
  (acall_eq (N := 44) Tryd.func27 (by kernel_rfl) (by kernel_rfl) hE (okgl f27_c (by kernel_rfl)) (by kernel_rfl)).trans (f27_main real _ n x0 H)

/-! incunable/incunableref16.Reach -/
noncomputable def f28_c : Code := (Tryd.f28.body).getD .skip

noncomputable def f28_J1 (S : Seam (Value × Heap)) (C : CallF) (n : Nat) (R0 : Value→Value→Value→Heap→Option (Value × Heap)) (R1 : Value→Value→Value→Value→Heap→Option (Value × Heap)) (R2 : Value→Value→Value→Value→Value→Heap→Option (Value × Heap)) (y85 y86 y87 y88 y89 : Value) (H90 : Heap) : Option (Value × Heap) :=
 S.b (up (binB Tryd.prog .add 3 y89 (.int .i64 1)) H90) fun y91 H92 =>
 R2 y85 y86 y87 y88 y91 H92

noncomputable def f28_L2 (S : Seam (Value × Heap)) (C : CallF) (n : Nat) (R0 : Value→Value→Value→Heap→Option (Value × Heap)) (R1 : Value→Value→Value→Value→Heap→Option (Value × Heap)) : Nat → Value → Value → Value → Value → Value → Heap → Option (Value × Heap)
 | 0, _, _, _, _, _, _ => none
 | m + 1, y36, y37, y38, y39, y40, H41 =>
   S.b (up (iAddrS 2 y36 y39) H41) fun y42 H43 =>
   S.b (up (fAddr 1 y42) H43) fun y44 H45 =>
   S.b (ldC y44 H45) fun y46 H47 =>
   S.b (up (lenS y46) H47) fun y48 H49 =>
   S.b (up (binB Tryd.prog .lss 3 y40 y48) H49) fun y50 H51 =>
   S.b (gd (wd y50 true) (some (y37, H51)) H51) fun y52 H53 =>
   S.b (gd (wd y50 true) (some (y39, H53)) H53) fun y54 H55 =>
   S.b (gd (wd y50 true) (up (iAddrS 1 y52 y54) H55) H55) fun y56 H57 =>
   S.b (gd (wd y50 true) (ldC y56 H57) H57) fun y58 H59 =>
   S.b (pickV y50 y58 (.bool false) H59) fun y60 H61 =>
   S.i y60
   (S.b (up (iAddrS 2 y36 y39) H61) fun y62 H63 =>
    S.b (up (fAddr 1 y62) H63) fun y64 H65 =>
    S.b (ldC y64 H65) fun y66 H67 =>
    S.b (up (iAddrS 1 y66 y40) H67) fun y68 H69 =>
    S.b (ldC y68 H69) fun y70 H71 =>
    S.b (C 34 [y36, y70] H71) fun y72 H73 =>
    S.b (up (binB Tryd.prog .geq 3 y72 (.int .i64 0)) H73) fun y74 H75 =>
    S.i y74
    (S.b (up (iAddrS 1 y37 y72) H75) fun y76 H77 =>
     S.b (stV 1 y76 (.bool true) H77) fun _ H78 =>
     f28_J1 S C n R0 R1 (f28_L2 S C n R0 R1 m) y36 y37 y38 y39 y40 H78)
    (f28_J1 S C n R0 R1 (f28_L2 S C n R0 R1 m) y36 y37 y38 y39 y40 H75))
   (S.b (up (binB Tryd.prog .add 3 y39 (.int .i64 1)) H61) fun y93 H94 =>
    R1 y36 y37 y38 y93 H94)

theorem f28_L2_eq (S : Seam (Value × Heap)) (C : CallF) (n : Nat) (R0 : Value→Value→Value→Heap→Option (Value × Heap)) (R1 : Value→Value→Value→Value→Heap→Option (Value × Heap)) : ∀ (m : Nat) (env : Env) (H : Heap), aloopK (acodeK S Tryd.prog C n 89 (cAt f28_c [1, 1, 1, 1, 1, 1, 0, 1, 0, 0, 1, 0, 0, 1, 0, 0, 1, 0, 0, 1, 0, 0])) m env H (kAt S Tryd.prog C n 89 (cAt f28_c [1, 1, 1, 1, 1, 1, 0, 1, 0, 0, 1, 0, 0, 1, 0, 0]) [1, 0, 0, 1, 0] (onNormal (fun env' H' => R1 (env' 1) (env' 7) (env' 9) (env' 10) H') (kAt S Tryd.prog C n 89 (cAt f28_c [1, 1, 1, 1, 1, 1, 0, 1, 0, 0]) [1, 0, 0, 1, 0] (onNormal (fun env' H' => R0 (env' 1) (env' 7) (env' 9) H') (kAt S Tryd.prog C n 89 f28_c [1, 1, 1, 1, 1, 1, 0, 1, 0] (fin Tryd.prog Tryd.f28)))))) = f28_L2 S C n R0 R1 m (env 1) (env 7) (env 9) (env 10) (env 11) H := by
  intro m env H
  refine aloopK_eq (L := fun m env H => f28_L2 S C n R0 R1 m (env 1) (env 7) (env 9) (env 10) (env 11) H) (fun env H => rfl) (fun m env H => ?_) m env H
  kernel_rfl


noncomputable def f28_L1 (S : Seam (Value × Heap)) (C : CallF) (n : Nat) (R0 : Value→Value→Value→Heap→Option (Value × Heap)) : Nat → Value → Value → Value → Value → Heap → Option (Value × Heap)
 | 0, _, _, _, _, _ => none
 | m + 1, y27, y28, y29, y30, H31 =>
   S.b (up (lenS y27) H31) fun y32 H33 =>
   S.b (up (binB Tryd.prog .lss 3 y30 y32) H33) fun y34 H35 =>
   S.i y34
   (f28_L2 S C n R0 (f28_L1 S C n R0 m) n y27 y28 y29 y30 (.int .i64 0) H35)
   (S.b (up (binB Tryd.prog .add 3 y29 (.int .i64 1)) H35) fun y95 H96 =>
    R0 y27 y28 y95 H96)

noncomputable def f28_L1G (S : Seam (Value × Heap)) (C : CallF) (n : Nat) (R0 : Value→Value→Value→Heap→Option (Value × Heap)) (R1 : Value→Value→Value→Value→Heap→Option (Value × Heap)) (P2 : Env → Heap → Option (Value × Heap)) (env : Env) (H : Heap) : Option (Value × Heap) :=
 S.b (up (lenS (env 1)) H) fun y97 H98 =>
 S.b (up (binB Tryd.prog .lss 3 (env 10) y97) H98) fun y99 H100 =>
 S.i y99
 (P2 (putE 89 (putE 89 (putE 89 (putE 89 (putE 89 env (some 37) (env 10)) (some 38) (env 1)) (some 39) y97) (some 40) y99) (some 11) (.int .i64 0)) H100)
 (S.b (up (binB Tryd.prog .add 3 (env 9) (.int .i64 1)) H100) fun y101 H102 =>
  R0 (env 1) (env 7) y101 H102)

theorem f28_L1_eq (S : Seam (Value × Heap)) (C : CallF) (n : Nat) (R0 : Value→Value→Value→Heap→Option (Value × Heap)) : ∀ (m : Nat) (env : Env) (H : Heap), aloopK (acodeK S Tryd.prog C n 89 (cAt f28_c [1, 1, 1, 1, 1, 1, 0, 1, 0, 0, 1, 0, 0, 1, 0, 0])) m env H (kAt S Tryd.prog C n 89 (cAt f28_c [1, 1, 1, 1, 1, 1, 0, 1, 0, 0]) [1, 0, 0, 1, 0] (onNormal (fun env' H' => R0 (env' 1) (env' 7) (env' 9) H') (kAt S Tryd.prog C n 89 f28_c [1, 1, 1, 1, 1, 1, 0, 1, 0] (fin Tryd.prog Tryd.f28)))) = f28_L1 S C n R0 m (env 1) (env 7) (env 9) (env 10) H := by
  intro m env H
  refine aloopK_eq (L := fun m env H => f28_L1 S C n R0 m (env 1) (env 7) (env 9) (env 10) H) (fun env H => rfl) (fun m env H => ?_) m env H
  have h1 : acodeK S Tryd.prog C n 89 (cAt f28_c [1, 1, 1, 1, 1, 1, 0, 1, 0, 0, 1, 0, 0, 1, 0, 0]) env H (onNormal (fun env' H' => f28_L1 S C n R0 m (env' 1) (env' 7) (env' 9) (env' 10) H') (kAt S Tryd.prog C n 89 (cAt f28_c [1, 1, 1, 1, 1, 1, 0, 1, 0, 0]) [1, 0, 0, 1, 0] (onNormal (fun env' H' => R0 (env' 1) (env' 7) (env' 9) H') (kAt S Tryd.prog C n 89 f28_c [1, 1, 1, 1, 1, 1, 0, 1, 0] (fin Tryd.prog Tryd.f28))))) = f28_L1G S C n R0 (f28_L1 S C n R0 m) (fun env H => aloopK (acodeK S Tryd.prog C n 89 (cAt f28_c [1, 1, 1, 1, 1, 1, 0, 1, 0, 0, 1, 0, 0, 1, 0, 0, 1, 0, 0, 1, 0, 0])) n env H (kAt S Tryd.prog C n 89 (cAt f28_c [1, 1, 1, 1, 1, 1, 0, 1, 0, 0, 1, 0, 0, 1, 0, 0]) [1, 0, 0, 1, 0] (onNormal (fun env' H' => (f28_L1 S C n R0 m) (env' 1) (env' 7) (env' 9) (env' 10) H') (kAt S Tryd.prog C n 89 (cAt f28_c [1, 1, 1, 1, 1, 1, 0, 1, 0, 0]) [1, 0, 0, 1, 0] (onNormal (fun env' H' => R0 (env' 1) (env' 7) (env' 9) H') (kAt S Tryd.prog C n 89 f28_c [1, 1, 1, 1, 1, 1, 0, 1, 0] (fin Tryd.prog Tryd.f28))))))) env H := by kernel_rfl
  have e0 : (fun env H => aloopK (acodeK S Tryd.prog C n 89 (cAt f28_c [1, 1, 1, 1, 1, 1, 0, 1, 0, 0, 1, 0, 0, 1, 0, 0, 1, 0, 0, 1, 0, 0])) n env H (kAt S Tryd.prog C n 89 (cAt f28_c [1, 1, 1, 1, 1, 1, 0, 1, 0, 0, 1, 0, 0, 1, 0, 0]) [1, 0, 0, 1, 0] (onNormal (fun env' H' => (f28_L1 S C n R0 m) (env' 1) (env' 7) (env' 9) (env' 10) H') (kAt S Tryd.prog C n 89 (cAt f28_c [1, 1, 1, 1, 1, 1, 0, 1, 0, 0]) [1, 0, 0, 1, 0] (onNormal (fun env' H' => R0 (env' 1) (env' 7) (env' 9) H') (kAt S Tryd.prog C n 89 f28_c [1, 1, 1, 1, 1, 1, 0, 1, 0] (fin Tryd.prog Tryd.f28))))))) = (fun env H => f28_L2 S C n R0 (f28_L1 S C n R0 m) n (env 1) (env 7) (env 9) (env 10) (env 11) H) := by funext env H; exact f28_L2_eq S C n R0 (f28_L1 S C n R0 m) n env H
  rw [e0] at h1
  exact h1.trans (by kernel_rfl)


noncomputable def f28_J2 (S : Seam (Value × Heap)) (C : CallF) (n : Nat) (R3 : Value→Value→Value→Value→Heap→Option (Value × Heap)) (y125 y126 y127 y128 : Value) (H129 : Heap) : Option (Value × Heap) :=
 S.b (up (binB Tryd.prog .add 3 y128 (.int .i64 1)) H129) fun y130 H131 =>
 R3 y125 y126 y127 y130 H131

noncomputable def f28_L3 (S : Seam (Value × Heap)) (C : CallF) (n : Nat) : Nat → Value → Value → Value → Value → Heap → Option (Value × Heap)
 | 0, _, _, _, _, _ => none
 | m + 1, y103, y104, y105, y106, H107 =>
   S.b (up (lenS y103) H107) fun y108 H109 =>
   S.b (up (binB Tryd.prog .lss 3 y106 y108) H109) fun y110 H111 =>
   S.i y110
   (S.b (up (iAddrS 1 y104 y106) H111) fun y112 H113 =>
    S.b (ldC y112 H113) fun y114 H115 =>
    S.i y114
    (S.b (bldS 1 1 [(.int .i64 0)] [(0, 1, y106)] H115) fun y116 H117 =>
     S.b (app 1 8 y105 y116 H117) fun y118 H119 =>
     f28_J2 S C n (f28_L3 S C n m) y103 y104 y118 y106 H119)
    (f28_J2 S C n (f28_L3 S C n m) y103 y104 y105 y106 H115))
   (some (.tuple #[y105, (.int .i64 0)], H111))

theorem f28_L3_eq (S : Seam (Value × Heap)) (C : CallF) (n : Nat) : ∀ (m : Nat) (env : Env) (H : Heap), aloopK (acodeK S Tryd.prog C n 89 (cAt f28_c [1, 1, 1, 1, 1, 1, 1, 1, 0, 1, 0, 0])) m env H (kAt S Tryd.prog C n 89 f28_c [1, 1, 1, 1, 1, 1, 1, 1, 0, 1, 0] (fin Tryd.prog Tryd.f28)) = f28_L3 S C n m (env 1) (env 7) (env 13) (env 14) H := by
  intro m env H
  refine aloopK_eq (L := fun m env H => f28_L3 S C n m (env 1) (env 7) (env 13) (env 14) H) (fun env H => rfl) (fun m env H => ?_) m env H
  kernel_rfl


noncomputable def f28_L0 (S : Seam (Value × Heap)) (C : CallF) (n : Nat) : Nat → Value → Value → Value → Heap → Option (Value × Heap)
 | 0, _, _, _, _ => none
 | m + 1, y19, y20, y21, H22 =>
   S.b (up (lenS y19) H22) fun y23 H24 =>
   S.b (up (binB Tryd.prog .lss 3 y21 y23) H24) fun y25 H26 =>
   S.i y25
   (f28_L1 S C n (f28_L0 S C n m) n y19 y20 y21 (.int .i64 0) H26)
   (f28_L3 S C n n y19 y20 (.slice none 0 0) (.int .i64 0) H26)

noncomputable def f28_L0G (S : Seam (Value × Heap)) (C : CallF) (n : Nat) (R0 : Value→Value→Value→Heap→Option (Value × Heap)) (P1 : Env → Heap → Option (Value × Heap)) (P3 : Env → Heap → Option (Value × Heap)) (env : Env) (H : Heap) : Option (Value × Heap) :=
 S.b (up (lenS (env 1)) H) fun y132 H133 =>
 S.b (up (binB Tryd.prog .lss 3 (env 9) y132) H133) fun y134 H135 =>
 S.i y134
 (P1 (putE 89 (putE 89 (putE 89 (putE 89 (putE 89 env (some 31) (env 9)) (some 32) (env 1)) (some 33) y132) (some 34) y134) (some 10) (.int .i64 0)) H135)
 (P3 (putE 89 (putE 89 (putE 89 (putE 89 (putE 89 (putE 89 env (some 31) (env 9)) (some 32) (env 1)) (some 33) y132) (some 34) y134) (some 13) (.slice none 0 0)) (some 14) (.int .i64 0)) H135)

theorem f28_L0_eq (S : Seam (Value × Heap)) (C : CallF) (n : Nat) : ∀ (m : Nat) (env : Env) (H : Heap), aloopK (acodeK S Tryd.prog C n 89 (cAt f28_c [1, 1, 1, 1, 1, 1, 0, 1, 0, 0])) m env H (kAt S Tryd.prog C n 89 f28_c [1, 1, 1, 1, 1, 1, 0, 1, 0] (fin Tryd.prog Tryd.f28)) = f28_L0 S C n m (env 1) (env 7) (env 9) H := by
  intro m env H
  refine aloopK_eq (L := fun m env H => f28_L0 S C n m (env 1) (env 7) (env 9) H) (fun env H => rfl) (fun m env H => ?_) m env H
  have h1 : acodeK S Tryd.prog C n 89 (cAt f28_c [1, 1, 1, 1, 1, 1, 0, 1, 0, 0]) env H (onNormal (fun env' H' => f28_L0 S C n m (env' 1) (env' 7) (env' 9) H') (kAt S Tryd.prog C n 89 f28_c [1, 1, 1, 1, 1, 1, 0, 1, 0] (fin Tryd.prog Tryd.f28))) = f28_L0G S C n (f28_L0 S C n m) (fun env H => aloopK (acodeK S Tryd.prog C n 89 (cAt f28_c [1, 1, 1, 1, 1, 1, 0, 1, 0, 0, 1, 0, 0, 1, 0, 0])) n env H (kAt S Tryd.prog C n 89 (cAt f28_c [1, 1, 1, 1, 1, 1, 0, 1, 0, 0]) [1, 0, 0, 1, 0] (onNormal (fun env' H' => (f28_L0 S C n m) (env' 1) (env' 7) (env' 9) H') (kAt S Tryd.prog C n 89 f28_c [1, 1, 1, 1, 1, 1, 0, 1, 0] (fin Tryd.prog Tryd.f28))))) (fun env H => aloopK (acodeK S Tryd.prog C n 89 (cAt f28_c [1, 1, 1, 1, 1, 1, 1, 1, 0, 1, 0, 0])) n env H (kAt S Tryd.prog C n 89 f28_c [1, 1, 1, 1, 1, 1, 1, 1, 0, 1, 0] (fin Tryd.prog Tryd.f28))) env H := by kernel_rfl
  have e0 : (fun env H => aloopK (acodeK S Tryd.prog C n 89 (cAt f28_c [1, 1, 1, 1, 1, 1, 0, 1, 0, 0, 1, 0, 0, 1, 0, 0])) n env H (kAt S Tryd.prog C n 89 (cAt f28_c [1, 1, 1, 1, 1, 1, 0, 1, 0, 0]) [1, 0, 0, 1, 0] (onNormal (fun env' H' => (f28_L0 S C n m) (env' 1) (env' 7) (env' 9) H') (kAt S Tryd.prog C n 89 f28_c [1, 1, 1, 1, 1, 1, 0, 1, 0] (fin Tryd.prog Tryd.f28))))) = (fun env H => f28_L1 S C n (f28_L0 S C n m) n (env 1) (env 7) (env 9) (env 10) H) := by funext env H; exact f28_L1_eq S C n (f28_L0 S C n m) n env H
  have e1 : (fun env H => aloopK (acodeK S Tryd.prog C n 89 (cAt f28_c [1, 1, 1, 1, 1, 1, 1, 1, 0, 1, 0, 0])) n env H (kAt S Tryd.prog C n 89 f28_c [1, 1, 1, 1, 1, 1, 1, 1, 0, 1, 0] (fin Tryd.prog Tryd.f28))) = (fun env H => f28_L3 S C n n (env 1) (env 7) (env 13) (env 14) H) := by funext env H; exact f28_L3_eq S C n n env H
  rw [e0, e1] at h1
  exact h1.trans (by kernel_rfl)


noncomputable def f28 (S : Seam (Value × Heap)) (C : CallF) (n : Nat) (x0 : Value) (x1 : Value) (H : Heap) : Option (Value × Heap) :=
 S.b (C 33 [x1] H) fun y1 H2 =>
 S.b (up (binB Tryd.prog .neq 28 y1 (.int .i64 0)) H2) fun y3 H4 =>
 S.i y3
 (some (.tuple #[(.slice none 0 0), y1], H4))
 (S.b (up (lenS x1) H4) fun y5 H6 =>
  S.b (mkS 1 1 [(.bool false)] y5 y5 H6) fun y7 H8 =>
  S.b (C 34 [x1, x0] H8) fun y9 H10 =>
  S.b (up (binB Tryd.prog .geq 3 y9 (.int .i64 0)) H10) fun y11 H12 =>
  S.i y11
  (S.b (up (iAddrS 1 y7 y9) H12) fun y13 H14 =>
   S.b (stV 1 y13 (.bool true) H14) fun _ H15 =>
   f28_L0 S C n n x1 y7 (.int .i64 0) H15)
  (f28_L0 S C n n x1 y7 (.int .i64 0) H12))

noncomputable def f28G (S : Seam (Value × Heap)) (C : CallF) (n : Nat) (P0 : Env → Heap → Option (Value × Heap)) (x0 : Value) (x1 : Value) (H : Heap) : Option (Value × Heap) :=
 S.b (C 33 [x1] H) fun y136 H137 =>
 S.b (up (binB Tryd.prog .neq 28 y136 (.int .i64 0)) H137) fun y138 H139 =>
 S.i y138
 (some (.tuple #[(.slice none 0 0), y136], H139))
 (S.b (up (lenS x1) H139) fun y140 H141 =>
  S.b (mkS 1 1 [(.bool false)] y140 y140 H141) fun y142 H143 =>
  S.b (C 34 [x1, x0] H143) fun y144 H145 =>
  S.b (up (binB Tryd.prog .geq 3 y144 (.int .i64 0)) H145) fun y146 H147 =>
  S.i y146
  (S.b (up (iAddrS 1 y142 y144) H147) fun y148 H149 =>
   S.b (stV 1 y148 (.bool true) H149) fun u150 H151 =>
   P0 (putE 89 (putE 89 (putE 89 (putE 89 (putE 89 (putE 89 (putE 89 (putE 89 (putE 89 (putE 89 (putE 89 (putE 89 (putE 89 (putE 89 (putE 89 (putE 89 (putE 89 (putE 89 (putE 89 (putE 89 (putE 89 (putE 89 (env0 [x0, x1]) (some 4) (.slice none 0 0)) (some 5) (.int .i64 0)) (some 15) x1) (some 16) y136) (some 6) y136) (some 17) y136) (some 18) y138) (some 20) x1) (some 21) y140) (some 22) y142) (some 7) y142) (some 23) x1) (some 24) x0) (some 25) y144) (some 8) y144) (some 26) y144) (some 27) y146) (some 28) y142) (some 29) y144) (some 30) y148) none u150) (some 9) (.int .i64 0)) H151)
  (P0 (putE 89 (putE 89 (putE 89 (putE 89 (putE 89 (putE 89 (putE 89 (putE 89 (putE 89 (putE 89 (putE 89 (putE 89 (putE 89 (putE 89 (putE 89 (putE 89 (putE 89 (putE 89 (env0 [x0, x1]) (some 4) (.slice none 0 0)) (some 5) (.int .i64 0)) (some 15) x1) (some 16) y136) (some 6) y136) (some 17) y136) (some 18) y138) (some 20) x1) (some 21) y140) (some 22) y142) (some 7) y142) (some 23) x1) (some 24) x0) (some 25) y144) (some 8) y144) (some 26) y144) (some 27) y146) (some 9) (.int .i64 0)) H147))

theorem f28_main (S : Seam (Value × Heap)) (C : CallF) (n : Nat) (x0 : Value) (x1 : Value) (H : Heap) : acodeK S Tryd.prog C n 89 f28_c (env0 [x0, x1]) H (fin Tryd.prog Tryd.f28) = f28 S C n x0 x1 H := by
  have h1 : acodeK S Tryd.prog C n 89 f28_c (env0 [x0, x1]) H (fin Tryd.prog Tryd.f28) = f28G S C n (fun env H => aloopK (acodeK S Tryd.prog C n 89 (cAt f28_c [1, 1, 1, 1, 1, 1, 0, 1, 0, 0])) n env H (kAt S Tryd.prog C n 89 f28_c [1, 1, 1, 1, 1, 1, 0, 1, 0] (fin Tryd.prog Tryd.f28))) x0 x1 H := by kernel_rfl
  have e0 : (fun env H => aloopK (acodeK S Tryd.prog C n 89 (cAt f28_c [1, 1, 1, 1, 1, 1, 0, 1, 0, 0])) n env H (kAt S Tryd.prog C n 89 f28_c [1, 1, 1, 1, 1, 1, 0, 1, 0] (fin Tryd.prog Tryd.f28))) = (fun env H => f28_L0 S C n n (env 1) (env 7) (env 9) H) := by funext env H; exact f28_L0_eq S C n n env H
  rw [e0] at h1
  exact h1.trans (by kernel_rfl)


theorem f28_eq {gl : Bool} {E : Ext} (hE : E 28 = none) (n : Nat) (x0 : Value) (x1 : Value) (H : Heap) : acall Tryd.prog gl E (n + 1) 28 [x0, x1] H = f28 real (acall Tryd.prog gl E n) n x0 x1 H :=
  (acall_eq (N := 89) Tryd.func28 (by kernel_rfl) (by kernel_rfl) hE (okgl f28_c (by kernel_rfl)) (by kernel_rfl)).trans (f28_main real _ n x0 x1 H)

/-! (*incunable/imports.walk).stop -/
noncomputable def f29_c : Code := (Tryd.f29.body).getD .skip

noncomputable def f29 (S : Seam (Value × Heap)) (C : CallF) (n : Nat) (x0 : Value) (x1 : Value) (x2 : Value) (H : Heap) : Option (Value × Heap) :=
 S.b (nilC x0 H) fun y1 H2 =>
 S.b (up (fAddr 5 y1) H2) fun y3 H4 =>
 S.b (stV 1 y3 x1 H4) fun _ H5 =>
 some (x2, H5)

theorem f29_main (S : Seam (Value × Heap)) (C : CallF) (n : Nat) (x0 : Value) (x1 : Value) (x2 : Value) (H : Heap) : acodeK S Tryd.prog C n 12 f29_c (env0 [x0, x1, x2]) H (fin Tryd.prog Tryd.f29) = f29 S C n x0 x1 x2 H := by
  kernel_rfl


theorem f29_eq {gl : Bool} {E : Ext} (hE : E 29 = none) (n : Nat) (x0 : Value) (x1 : Value) (x2 : Value) (H : Heap) : acall Tryd.prog gl E (n + 1) 29 [x0, x1, x2] H = f29 real (acall Tryd.prog gl E n) n x0 x1 x2 H :=
  (acall_eq (N := 12) Tryd.func29 (by kernel_rfl) (by kernel_rfl) hE (okgl f29_c (by kernel_rfl)) (by kernel_rfl)).trans (f29_main real _ n x0 x1 x2 H)

/-! incunable/incunableref16.May -/
noncomputable def f33_c : Code := (Tryd.f33.body).getD .skip

noncomputable def f33_L1 (S : Seam (Value × Heap)) (C : CallF) (n : Nat) (R0 : Value→Value→Heap→Option (Value × Heap)) : Nat → Value → Value → Value → Heap → Option (Value × Heap)
 | 0, _, _, _, _ => none
 | m + 1, y12, y13, y14, H15 =>
   S.b (up (binB Tryd.prog .lss 3 y14 y13) H15) fun y16 H17 =>
   S.i y16
   (S.b (up (iAddrS 2 y12 y14) H17) fun y18 H19 =>
    S.b (up (fAddr 0 y18) H19) fun y20 H21 =>
    S.c true (S.b (ldC y20 H21) fun y22 H23 =>
    S.b (up (iAddrS 2 y12 y13) H23) fun y24 H25 =>
    S.b (up (fAddr 0 y24) H25) fun y26 H27 =>
    S.c true (S.b (ldC y26 H27) fun y28 H29 =>
    S.b (up (binB Tryd.prog .eql 9 y22 y28) H29) fun y30 H31 =>
    S.i y30
    (some ((.int .i64 2), H31))
    (S.b (up (binB Tryd.prog .add 3 y14 (.int .i64 1)) H31) fun y32 H33 =>
     f33_L1 S C n R0 m y12 y13 y32 H33))))
   (S.b (up (binB Tryd.prog .add 3 y13 (.int .i64 1)) H17) fun y34 H35 =>
    R0 y12 y34 H35)

theorem f33_L1_eq (S : Seam (Value × Heap)) (C : CallF) (n : Nat) (R0 : Value→Value→Heap→Option (Value × Heap)) : ∀ (m : Nat) (env : Env) (H : Heap), aloopK (acodeK S Tryd.prog C n 30 (cAt f33_c [1, 1, 0, 1, 0, 0, 1, 0, 0, 1, 0, 0])) m env H (kAt S Tryd.prog C n 30 (cAt f33_c [1, 1, 0, 1, 0, 0]) [1, 0, 0, 1, 0] (onNormal (fun env' H' => R0 (env' 0) (env' 3) H') (kAt S Tryd.prog C n 30 f33_c [1, 1, 0, 1, 0] (fin Tryd.prog Tryd.f33)))) = f33_L1 S C n R0 m (env 0) (env 3) (env 4) H := by
  intro m env H
  refine aloopK_eq (L := fun m env H => f33_L1 S C n R0 m (env 0) (env 3) (env 4) H) (fun env H => rfl) (fun m env H => ?_) m env H
  kernel_rfl


noncomputable def f33_L0 (S : Seam (Value × Heap)) (C : CallF) (n : Nat) : Nat → Value → Value → Heap → Option (Value × Heap)
 | 0, _, _, _ => none
 | m + 1, y5, y6, H7 =>
   S.b (up (lenS y5) H7) fun y8 H9 =>
   S.b (up (binB Tryd.prog .lss 3 y6 y8) H9) fun y10 H11 =>
   S.i y10
   (f33_L1 S C n (f33_L0 S C n m) n y5 y6 (.int .i64 0) H11)
   (some ((.int .i64 0), H11))

noncomputable def f33_L0G (S : Seam (Value × Heap)) (C : CallF) (n : Nat) (R0 : Value→Value→Heap→Option (Value × Heap)) (P1 : Env → Heap → Option (Value × Heap)) (env : Env) (H : Heap) : Option (Value × Heap) :=
 S.b (up (lenS (env 0)) H) fun y36 H37 =>
 S.b (up (binB Tryd.prog .lss 3 (env 3) y36) H37) fun y38 H39 =>
 S.i y38
 (P1 (putE 30 (putE 30 (putE 30 (putE 30 (putE 30 env (some 8) (env 3)) (some 9) (env 0)) (some 10) y36) (some 11) y38) (some 4) (.int .i64 0)) H39)
 (some ((.int .i64 0), H39))

theorem f33_L0_eq (S : Seam (Value × Heap)) (C : CallF) (n : Nat) : ∀ (m : Nat) (env : Env) (H : Heap), aloopK (acodeK S Tryd.prog C n 30 (cAt f33_c [1, 1, 0, 1, 0, 0])) m env H (kAt S Tryd.prog C n 30 f33_c [1, 1, 0, 1, 0] (fin Tryd.prog Tryd.f33)) = f33_L0 S C n m (env 0) (env 3) H := by
  intro m env H
  refine aloopK_eq (L := fun m env H => f33_L0 S C n m (env 0) (env 3) H) (fun env H => rfl) (fun m env H => ?_) m env H
  have h1 : acodeK S Tryd.prog C n 30 (cAt f33_c [1, 1, 0, 1, 0, 0]) env H (onNormal (fun env' H' => f33_L0 S C n m (env' 0) (env' 3) H') (kAt S Tryd.prog C n 30 f33_c [1, 1, 0, 1, 0] (fin Tryd.prog Tryd.f33))) = f33_L0G S C n (f33_L0 S C n m) (fun env H => aloopK (acodeK S Tryd.prog C n 30 (cAt f33_c [1, 1, 0, 1, 0, 0, 1, 0, 0, 1, 0, 0])) n env H (kAt S Tryd.prog C n 30 (cAt f33_c [1, 1, 0, 1, 0, 0]) [1, 0, 0, 1, 0] (onNormal (fun env' H' => (f33_L0 S C n m) (env' 0) (env' 3) H') (kAt S Tryd.prog C n 30 f33_c [1, 1, 0, 1, 0] (fin Tryd.prog Tryd.f33))))) env H := by kernel_rfl
  have e0 : (fun env H => aloopK (acodeK S Tryd.prog C n 30 (cAt f33_c [1, 1, 0, 1, 0, 0, 1, 0, 0, 1, 0, 0])) n env H (kAt S Tryd.prog C n 30 (cAt f33_c [1, 1, 0, 1, 0, 0]) [1, 0, 0, 1, 0] (onNormal (fun env' H' => (f33_L0 S C n m) (env' 0) (env' 3) H') (kAt S Tryd.prog C n 30 f33_c [1, 1, 0, 1, 0] (fin Tryd.prog Tryd.f33))))) = (fun env H => f33_L1 S C n (f33_L0 S C n m) n (env 0) (env 3) (env 4) H) := by funext env H; exact f33_L1_eq S C n (f33_L0 S C n m) n env H
  rw [e0] at h1
  exact h1.trans (by kernel_rfl)


noncomputable def f33 (S : Seam (Value × Heap)) (C : CallF) (n : Nat) (x0 : Value) (H : Heap) : Option (Value × Heap) :=
 S.b (up (lenS x0) H) fun y1 H2 =>
 S.b (up (binB Tryd.prog .gtr 3 y1 (.int .i64 1000)) H2) fun y3 H4 =>
 S.i y3
 (some ((.int .i64 5), H4))
 (f33_L0 S C n n x0 (.int .i64 0) H4)

noncomputable def f33G (S : Seam (Value × Heap)) (C : CallF) (n : Nat) (P0 : Env → Heap → Option (Value × Heap)) (x0 : Value) (H : Heap) : Option (Value × Heap) :=
 S.b (up (lenS x0) H) fun y40 H41 =>
 S.b (up (binB Tryd.prog .gtr 3 y40 (.int .i64 1000)) H41) fun y42 H43 =>
 S.i y42
 (some ((.int .i64 5), H43))
 (P0 (putE 30 (putE 30 (putE 30 (putE 30 (putE 30 (env0 [x0]) (some 2) (.int .i64 0)) (some 5) x0) (some 6) y40) (some 7) y42) (some 3) (.int .i64 0)) H43)

theorem f33_main (S : Seam (Value × Heap)) (C : CallF) (n : Nat) (x0 : Value) (H : Heap) : acodeK S Tryd.prog C n 30 f33_c (env0 [x0]) H (fin Tryd.prog Tryd.f33) = f33 S C n x0 H := by
  have h1 : acodeK S Tryd.prog C n 30 f33_c (env0 [x0]) H (fin Tryd.prog Tryd.f33) = f33G S C n (fun env H => aloopK (acodeK S Tryd.prog C n 30 (cAt f33_c [1, 1, 0, 1, 0, 0])) n env H (kAt S Tryd.prog C n 30 f33_c [1, 1, 0, 1, 0] (fin Tryd.prog Tryd.f33))) x0 H := by kernel_rfl
  have e0 : (fun env H => aloopK (acodeK S Tryd.prog C n 30 (cAt f33_c [1, 1, 0, 1, 0, 0])) n env H (kAt S Tryd.prog C n 30 f33_c [1, 1, 0, 1, 0] (fin Tryd.prog Tryd.f33))) = (fun env H => f33_L0 S C n n (env 0) (env 3) H) := by funext env H; exact f33_L0_eq S C n n env H
  rw [e0] at h1
  exact h1.trans (by kernel_rfl)


theorem f33_eq {gl : Bool} {E : Ext} (hE : E 33 = none) (n : Nat) (x0 : Value) (H : Heap) : acall Tryd.prog gl E (n + 1) 33 [x0] H = f33 real (acall Tryd.prog gl E n) n x0 H :=
  (acall_eq (N := 30) Tryd.func33 (by kernel_rfl) (by kernel_rfl) hE (okgl f33_c (by kernel_rfl)) (by kernel_rfl)).trans (f33_main real _ n x0 H)

/-! incunable/incunableref16.find -/
noncomputable def f34_c : Code := (Tryd.f34.body).getD .skip

noncomputable def f34_L0 (S : Seam (Value × Heap)) (C : CallF) (n : Nat) : Nat → Value → Value → Value → Heap → Option (Value × Heap)
 | 0, _, _, _, _ => none
 | m + 1, y1, y2, y3, H4 =>
   S.b (up (lenS y1) H4) fun y5 H6 =>
   S.b (up (binB Tryd.prog .lss 3 y3 y5) H6) fun y7 H8 =>
   S.i y7
   (S.b (up (iAddrS 2 y1 y3) H8) fun y9 H10 =>
    S.b (up (fAddr 0 y9) H10) fun y11 H12 =>
    S.b (ldC y11 H12) fun y13 H14 =>
    S.b (up (binB Tryd.prog .eql 9 y13 y2) H14) fun y15 H16 =>
    S.i y15
    (some (y3, H16))
    (S.b (up (binB Tryd.prog .add 3 y3 (.int .i64 1)) H16) fun y17 H18 =>
     f34_L0 S C n m y1 y2 y17 H18))
   (some ((.int .i64 (-1)), H8))

theorem f34_L0_eq (S : Seam (Value × Heap)) (C : CallF) (n : Nat) : ∀ (m : Nat) (env : Env) (H : Heap), aloopK (acodeK S Tryd.prog C n 20 (cAt f34_c [1, 0, 1, 0, 0])) m env H (kAt S Tryd.prog C n 20 f34_c [1, 0, 1, 0] (fin Tryd.prog Tryd.f34)) = f34_L0 S C n m (env 0) (env 1) (env 5) H := by
  intro m env H
  refine aloopK_eq (L := fun m env H => f34_L0 S C n m (env 0) (env 1) (env 5) H) (fun env H => rfl) (fun m env H => ?_) m env H
  kernel_rfl


noncomputable def f34 (S : Seam (Value × Heap)) (C : CallF) (n : Nat) (x0 : Value) (x1 : Value) (H : Heap) : Option (Value × Heap) :=
 f34_L0 S C n n x0 x1 (.int .i64 0) H

noncomputable def f34G (S : Seam (Value × Heap)) (C : CallF) (n : Nat) (P0 : Env → Heap → Option (Value × Heap)) (x0 : Value) (x1 : Value) (H : Heap) : Option (Value × Heap) :=
 P0 (putE 20 (putE 20 (env0 [x0, x1]) (some 4) (.int .i64 0)) (some 5) (.int .i64 0)) H

theorem f34_main (S : Seam (Value × Heap)) (C : CallF) (n : Nat) (x0 : Value) (x1 : Value) (H : Heap) : acodeK S Tryd.prog C n 20 f34_c (env0 [x0, x1]) H (fin Tryd.prog Tryd.f34) = f34 S C n x0 x1 H := by
  have h1 : acodeK S Tryd.prog C n 20 f34_c (env0 [x0, x1]) H (fin Tryd.prog Tryd.f34) = f34G S C n (fun env H => aloopK (acodeK S Tryd.prog C n 20 (cAt f34_c [1, 0, 1, 0, 0])) n env H (kAt S Tryd.prog C n 20 f34_c [1, 0, 1, 0] (fin Tryd.prog Tryd.f34))) x0 x1 H := by kernel_rfl
  have e0 : (fun env H => aloopK (acodeK S Tryd.prog C n 20 (cAt f34_c [1, 0, 1, 0, 0])) n env H (kAt S Tryd.prog C n 20 f34_c [1, 0, 1, 0] (fin Tryd.prog Tryd.f34))) = (fun env H => f34_L0 S C n n (env 0) (env 1) (env 5) H) := by funext env H; exact f34_L0_eq S C n n env H
  rw [e0] at h1
  exact h1.trans (by kernel_rfl)


theorem f34_eq {gl : Bool} {E : Ext} (hE : E 34 = none) (n : Nat) (x0 : Value) (x1 : Value) (H : Heap) : acall Tryd.prog gl E (n + 1) 34 [x0, x1] H = f34 real (acall Tryd.prog gl E n) n x0 x1 H :=
  (acall_eq (N := 20) Tryd.func34 (by kernel_rfl) (by kernel_rfl) hE (okgl f34_c (by kernel_rfl)) (by kernel_rfl)).trans (f34_main real _ n x0 x1 H)

/-! (*incunable/incunableref16.walk).through -/
noncomputable def f35_c : Code := (Tryd.f35.body).getD .skip

noncomputable def f35_J1 (S : Seam (Value × Heap)) (C : CallF) (n : Nat) (R0 : Value→Value→Value→Heap→Option (Value × Heap)) (y129 y130 y131 : Value) (H132 : Heap) : Option (Value × Heap) :=
 S.b (up (binB Tryd.prog .add 3 y131 (.int .i64 1)) H132) fun y133 H134 =>
 R0 y129 y130 y133 H134

noncomputable def f35_L0 (S : Seam (Value × Heap)) (C : CallF) (n : Nat) : Nat → Value → Value → Value → Heap → Option (Value × Heap)
 | 0, _, _, _, _ => none
 | m + 1, y53, y54, y55, H56 =>
   S.b (nilC y53 H56) fun y57 H58 =>
   S.b (up (fAddr 0 y57) H58) fun y59 H60 =>
   S.b (ldC y59 H60) fun y61 H62 =>
   S.b (up (iAddrS 2 y61 y54) H62) fun y63 H64 =>
   S.b (up (fAddr 1 y63) H64) fun y65 H66 =>
   S.b (ldC y65 H66) fun y67 H68 =>
   S.b (up (lenS y67) H68) fun y69 H70 =>
   S.b (up (binB Tryd.prog .lss 3 y55 y69) H70) fun y71 H72 =>
   S.b (gd (wd y71 true) (some (y53, H72)) H72) fun y73 H74 =>
   S.b (gd (wd y71 true) (nilC y73 H74) H74) fun y75 H76 =>
   S.b (gd (wd y71 true) (up (fAddr 6 y75) H76) H76) fun y77 H78 =>
   S.b (gd (wd y71 true) (ldC y77 H78) H78) fun y79 H80 =>
   S.b (gd (wd y71 true) (up (binB Tryd.prog .eql 28 y79 (.int .i64 0)) H80) H80) fun y81 H82 =>
   S.b (pickV y71 y81 (.bool false) H82) fun y83 H84 =>
   S.i y83
   (S.b (nilC y53 H84) fun y85 H86 =>
    S.b (up (fAddr 0 y85) H86) fun y87 H88 =>
    S.b (ldC y87 H88) fun y89 H90 =>
    S.b (up (iAddrS 2 y89 y54) H90) fun y91 H92 =>
    S.b (up (fAddr 1 y91) H92) fun y93 H94 =>
    S.b (ldC y93 H94) fun y95 H96 =>
    S.b (up (iAddrS 1 y95 y55) H96) fun y97 H98 =>
    S.b (ldC y97 H98) fun y99 H100 =>
    S.b (nilC y53 H100) fun y101 H102 =>
    S.b (up (fAddr 0 y101) H102) fun y103 H104 =>
    S.b (ldC y103 H104) fun y105 H106 =>
    S.b (C 34 [y105, y99] H106) fun y107 H108 =>
    S.b (up (binB Tryd.prog .lss 3 y107 (.int .i64 0)) H108) fun y109 H110 =>
    S.i y109
    (S.b (nilC y53 H110) fun y111 H112 =>
     S.b (up (fAddr 5 y111) H112) fun y113 H114 =>
     S.b (stV 1 y113 y99 H114) fun _ H115 =>
     S.b (nilC y53 H115) fun y116 H117 =>
     S.b (up (fAddr 6 y116) H117) fun y118 H119 =>
     S.b (stV 1 y118 (.int .i64 160) H119) fun _ H120 =>
     f35_J1 S C n (f35_L0 S C n m) y53 y54 y55 H120)
    (S.b (nilC y53 H110) fun y135 H136 =>
     S.b (up (fAddr 1 y135) H136) fun y137 H138 =>
     S.b (ldC y137 H138) fun y139 H140 =>
     S.b (up (iAddrS 1 y139 y107) H140) fun y141 H142 =>
     S.b (ldC y141 H142) fun y143 H144 =>
     S.b (gd (wd y143 true) (some (y53, H144)) H144) fun y145 H146 =>
     S.b (gd (wd y143 true) (nilC y145 H146) H146) fun y147 H148 =>
     S.b (gd (wd y143 true) (up (fAddr 2 y147) H148) H148) fun y149 H150 =>
     S.b (gd (wd y143 true) (ldC y149 H150) H150) fun y151 H152 =>
     S.b (gd (wd y143 true) (some (y107, H152)) H152) fun y153 H154 =>
     S.b (gd (wd y143 true) (up (iAddrS 1 y151 y153) H154) H154) fun y155 H156 =>
     S.b (gd (wd y143 true) (ldC y155 H156) H156) fun y157 H158 =>
     S.b (gd (wd y143 true) (up (unB .not y157) H158) H158) fun y159 H160 =>
     S.b (pickV y143 y159 (.bool false) H160) fun y161 H162 =>
     S.i y161
     (S.b (nilC y53 H162) fun y163 H164 =>
      S.b (up (fAddr 5 y163) H164) fun y165 H166 =>
      S.b (stV 1 y165 y99 H166) fun _ H167 =>
      S.b (nilC y53 H167) fun y168 H169 =>
      S.b (up (fAddr 6 y168) H169) fun y170 H171 =>
      S.b (stV 1 y170 (.int .i64 161) H171) fun _ H172 =>
      f35_J1 S C n (f35_L0 S C n m) y53 y54 y55 H172)
     (S.b (nilC y53 H162) fun y173 H174 =>
      S.b (up (fAddr 2 y173) H174) fun y175 H176 =>
      S.b (ldC y175 H176) fun y177 H178 =>
      S.b (up (iAddrS 1 y177 y107) H178) fun y179 H180 =>
      S.b (ldC y179 H180) fun y181 H182 =>
      S.b (up (unB .not y181) H182) fun y183 H184 =>
      S.i y183
      (S.b (C 35 [y53, y107] H184) fun y185 H186 =>
       f35_J1 S C n (f35_L0 S C n m) y53 y54 y55 H186)
      (f35_J1 S C n (f35_L0 S C n m) y53 y54 y55 H184))))
   (S.b (nilC y53 H84) fun y187 H188 =>
    S.b (up (fAddr 6 y187) H188) fun y189 H190 =>
    S.b (ldC y189 H190) fun y191 H192 =>
    S.b (up (binB Tryd.prog .eql 28 y191 (.int .i64 0)) H192) fun y193 H194 =>
    S.i y193
    (S.b (nilC y53 H194) fun y195 H196 =>
     S.b (up (fAddr 2 y195) H196) fun y197 H198 =>
     S.b (ldC y197 H198) fun y199 H200 =>
     S.b (up (iAddrS 1 y199 y54) H200) fun y201 H202 =>
     S.b (stV 1 y201 (.bool true) H202) fun _ H203 =>
     S.b (nilC y53 H203) fun y204 H205 =>
     S.b (up (fAddr 4 y204) H205) fun y206 H207 =>
     S.b (ldC y206 H207) fun y208 H209 =>
     S.b (bldS 1 1 [(.int .i64 0)] [(0, 1, y54)] H209) fun y210 H211 =>
     S.b (app 1 8 y208 y210 H211) fun y212 H213 =>
     S.b (nilC y53 H213) fun y214 H215 =>
     S.b (up (fAddr 4 y214) H215) fun y216 H217 =>
     S.b (stV 1 y216 y212 H217) fun _ H218 =>
     some (.tuple #[], H218))
    (some (.tuple #[], H194)))

theorem f35_L0_eq (S : Seam (Value × Heap)) (C : CallF) (n : Nat) : ∀ (m : Nat) (env : Env) (H : Heap), aloopK (acodeK S Tryd.prog C n 145 (cAt f35_c [1, 1, 1, 0, 1, 0, 0])) m env H (kAt S Tryd.prog C n 145 f35_c [1, 1, 1, 0, 1, 0] (fin Tryd.prog Tryd.f35)) = f35_L0 S C n m (env 0) (env 1) (env 4) H := by
  intro m env H
  refine aloopK_eq (L := fun m env H => f35_L0 S C n m (env 0) (env 1) (env 4) H) (fun env H => rfl) (fun m env H => ?_) m env H
  kernel_rfl


noncomputable def f35 (S : Seam (Value × Heap)) (C : CallF) (n : Nat) (x0 : Value) (x1 : Value) (H : Heap) : Option (Value × Heap) :=
 S.b (nilC x0 H) fun y1 H2 =>
 S.b (up (fAddr 3 y1) H2) fun y3 H4 =>
 S.b (ldC y3 H4) fun y5 H6 =>
 S.b (up (binB Tryd.prog .geq 3 y5 (.int .i64 32)) H6) fun y7 H8 =>
 S.i y7
 (S.b (nilC x0 H8) fun y9 H10 =>
  S.b (up (fAddr 0 y9) H10) fun y11 H12 =>
  S.b (ldC y11 H12) fun y13 H14 =>
  S.b (up (iAddrS 2 y13 x1) H14) fun y15 H16 =>
  S.b (up (fAddr 0 y15) H16) fun y17 H18 =>
  S.b (ldC y17 H18) fun y19 H20 =>
  S.b (nilC x0 H20) fun y21 H22 =>
  S.b (up (fAddr 5 y21) H22) fun y23 H24 =>
  S.b (stV 1 y23 y19 H24) fun _ H25 =>
  S.b (nilC x0 H25) fun y26 H27 =>
  S.b (up (fAddr 6 y26) H27) fun y28 H29 =>
  S.b (stV 1 y28 (.int .i64 5) H29) fun _ H30 =>
  some (.tuple #[], H30))
 (S.b (nilC x0 H8) fun y31 H32 =>
  S.b (up (fAddr 3 y31) H32) fun y33 H34 =>
  S.b (ldC y33 H34) fun y35 H36 =>
  S.b (up (binB Tryd.prog .add 3 y35 (.int .i64 1)) H36) fun y37 H38 =>
  S.b (nilC x0 H38) fun y39 H40 =>
  S.b (up (fAddr 3 y39) H40) fun y41 H42 =>
  S.b (stV 1 y41 y37 H42) fun _ H43 =>
  S.b (nilC x0 H43) fun y44 H45 =>
  S.b (up (fAddr 1 y44) H45) fun y46 H47 =>
  S.b (ldC y46 H47) fun y48 H49 =>
  S.b (up (iAddrS 1 y48 x1) H49) fun y50 H51 =>
  S.b (stV 1 y50 (.bool true) H51) fun _ H52 =>
  f35_L0 S C n n x0 x1 (.int .i64 0) H52)

noncomputable def f35G (S : Seam (Value × Heap)) (C : CallF) (n : Nat) (P0 : Env → Heap → Option (Value × Heap)) (x0 : Value) (x1 : Value) (H : Heap) : Option (Value × Heap) :=
 S.b (nilC x0 H) fun y219 H220 =>
 S.b (up (fAddr 3 y219) H220) fun y221 H222 =>
 S.b (ldC y221 H222) fun y223 H224 =>
 S.b (up (binB Tryd.prog .geq 3 y223 (.int .i64 32)) H224) fun y225 H226 =>
 S.i y225
 (S.b (nilC x0 H226) fun y227 H228 =>
  S.b (up (fAddr 0 y227) H228) fun y229 H230 =>
  S.b (ldC y229 H230) fun y231 H232 =>
  S.b (up (iAddrS 2 y231 x1) H232) fun y233 H234 =>
  S.b (up (fAddr 0 y233) H234) fun y235 H236 =>
  S.b (ldC y235 H236) fun y237 H238 =>
  S.b (nilC x0 H238) fun y239 H240 =>
  S.b (up (fAddr 5 y239) H240) fun y241 H242 =>
  S.b (stV 1 y241 y237 H242) fun u243 H244 =>
  S.b (nilC x0 H244) fun y245 H246 =>
  S.b (up (fAddr 6 y245) H246) fun y247 H248 =>
  S.b (stV 1 y247 (.int .i64 5) H248) fun u249 H250 =>
  some (.tuple #[], H250))
 (S.b (nilC x0 H226) fun y251 H252 =>
  S.b (up (fAddr 3 y251) H252) fun y253 H254 =>
  S.b (ldC y253 H254) fun y255 H256 =>
  S.b (up (binB Tryd.prog .add 3 y255 (.int .i64 1)) H256) fun y257 H258 =>
  S.b (nilC x0 H258) fun y259 H260 =>
  S.b (up (fAddr 3 y259) H260) fun y261 H262 =>
  S.b (stV 1 y261 y257 H262) fun u263 H264 =>
  S.b (nilC x0 H264) fun y265 H266 =>
  S.b (up (fAddr 1 y265) H266) fun y267 H268 =>
  S.b (ldC y267 H268) fun y269 H270 =>
  S.b (up (iAddrS 1 y269 x1) H270) fun y271 H272 =>
  S.b (stV 1 y271 (.bool true) H272) fun u273 H274 =>
  P0 (putE 145 (putE 145 (putE 145 (putE 145 (putE 145 (putE 145 (putE 145 (putE 145 (putE 145 (putE 145 (putE 145 (putE 145 (putE 145 (putE 145 (putE 145 (putE 145 (putE 145 (putE 145 (putE 145 (putE 145 (putE 145 (putE 145 (env0 [x0, x1]) (some 7) x0) (some 8) y219) (some 9) y221) (some 10) y223) (some 11) y225) (some 26) x0) (some 27) x0) (some 28) y251) (some 29) y253) (some 30) y255) (some 31) y257) (some 32) y259) (some 33) y261) none u263) (some 34) x0) (some 35) y265) (some 36) y267) (some 37) y269) (some 38) x1) (some 39) y271) none u273) (some 4) (.int .i64 0)) H274)

theorem f35_main (S : Seam (Value × Heap)) (C : CallF) (n : Nat) (x0 : Value) (x1 : Value) (H : Heap) : acodeK S Tryd.prog C n 145 f35_c (env0 [x0, x1]) H (fin Tryd.prog Tryd.f35) = f35 S C n x0 x1 H := by
  have h1 : acodeK S Tryd.prog C n 145 f35_c (env0 [x0, x1]) H (fin Tryd.prog Tryd.f35) = f35G S C n (fun env H => aloopK (acodeK S Tryd.prog C n 145 (cAt f35_c [1, 1, 1, 0, 1, 0, 0])) n env H (kAt S Tryd.prog C n 145 f35_c [1, 1, 1, 0, 1, 0] (fin Tryd.prog Tryd.f35))) x0 x1 H := by kernel_rfl
  have e0 : (fun env H => aloopK (acodeK S Tryd.prog C n 145 (cAt f35_c [1, 1, 1, 0, 1, 0, 0])) n env H (kAt S Tryd.prog C n 145 f35_c [1, 1, 1, 0, 1, 0] (fin Tryd.prog Tryd.f35))) = (fun env H => f35_L0 S C n n (env 0) (env 1) (env 4) H) := by funext env H; exact f35_L0_eq S C n n env H
  rw [e0] at h1
  exact h1.trans (by kernel_rfl)


theorem f35_eq {gl : Bool} {E : Ext} (hE : E 35 = none) (n : Nat) (x0 : Value) (x1 : Value) (H : Heap) : acall Tryd.prog gl E (n + 1) 35 [x0, x1] H = f35 real (acall Tryd.prog gl E n) n x0 x1 H :=
  (acall_eq (N := 145) Tryd.func35 (by kernel_rfl) (by kernel_rfl) hE (okgl f35_c (by kernel_rfl)) (by kernel_rfl)).trans (f35_main real _ n x0 x1 H)

end Go.Eng
