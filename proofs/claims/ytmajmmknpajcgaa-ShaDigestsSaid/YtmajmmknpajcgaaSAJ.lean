/- The functions, printed. -/
import Derived.Test.YtmajmmknpajcgaaProg
import Derived.Test.YtmajmmknpajcgaaEnhT
import Derived.KernelRfl
set_option linter.unusedVariables false
set_option maxRecDepth 100000
namespace Go.Eng
open Go Go.Proofs

/-! bytes.Join -/
noncomputable def f41_c : Code := (Try.f41.body).getD .skip

noncomputable def f41_J1 (S : Seam (Value × Heap)) (C : CallF) (n : Nat) (R0 : Value→Value→Value→Value→Value→Value→Heap→Option (Value × Heap)) (y76 y77 y78 y79 y80 y81 y82 : Value) (H83 : Heap) : Option (Value × Heap) :=
 S.b (up (lenS y79) H83) fun y84 H85 =>
 S.b (up (binB Try.prog .add 3 y78 y84) H85) fun y86 H87 =>
 S.b (up (binB Try.prog .add 3 y82 (.int .i64 1)) H87) fun y88 H89 =>
 R0 y76 y77 y86 y80 y81 y88 H89

noncomputable def f41_L1 (S : Seam (Value × Heap)) (C : CallF) (n : Nat) : Nat → Value → Value → Value → Value → Value → Value → Heap → Option (Value × Heap)
 | 0, _, _, _, _, _, _, _ => none
 | m + 1, y104, y105, y106, y107, y108, y109, H110 =>
   S.b (up (binB Try.prog .lss 3 y109 y108) H110) fun y111 H112 =>
   S.i y111
   (S.b (up (iAddrS 1 y107 y109) H112) fun y113 H114 =>
    S.b (ldC y113 H114) fun y115 H116 =>
    S.b (up (slcS 1 y105 (some y106) none none) H116) fun y117 H118 =>
    S.b (cpy 1 y117 y104 H118) fun y119 H120 =>
    S.b (up (binB Try.prog .add 3 y106 y119) H120) fun y121 H122 =>
    S.b (up (slcS 1 y105 (some y121) none none) H122) fun y123 H124 =>
    S.b (cpy 1 y123 y115 H124) fun y125 H126 =>
    S.b (up (binB Try.prog .add 3 y121 y125) H126) fun y127 H128 =>
    S.b (up (binB Try.prog .add 3 y109 (.int .i64 1)) H128) fun y129 H130 =>
    f41_L1 S C n m y104 y105 y127 y107 y108 y129 H130)
   (some (y105, H112))

theorem f41_L1_eq (S : Seam (Value × Heap)) (C : CallF) (n : Nat) : ∀ (m : Nat) (env : Env) (H : Heap), aloopK (acodeK S Try.prog C n 92 (cAt f41_c [1, 1, 1, 1, 1, 1, 1, 1, 0, 1, 0, 0])) m env H (kAt S Try.prog C n 92 f41_c [1, 1, 1, 1, 1, 1, 1, 1, 0, 1, 0] (fin Try.prog Try.f41)) = f41_L1 S C n m (env 1) (env 8) (env 9) (env 70) (env 71) (env 72) H := by
  intro m env H
  refine aloopK_eq (L := fun m env H => f41_L1 S C n m (env 1) (env 8) (env 9) (env 70) (env 71) (env 72) H) (fun env H => rfl) (fun m env H => ?_) m env H
  kernel_rfl


noncomputable def f41_L0 (S : Seam (Value × Heap)) (C : CallF) (n : Nat) : Nat → Value → Value → Value → Value → Value → Value → Heap → Option (Value × Heap)
 | 0, _, _, _, _, _, _, _ => none
 | m + 1, y54, y55, y56, y57, y58, y59, H60 =>
   S.b (up (binB Try.prog .lss 3 y59 y58) H60) fun y61 H62 =>
   S.i y61
   (S.b (up (iAddrS 1 y57 y59) H62) fun y63 H64 =>
    S.b (ldC y63 H64) fun y65 H66 =>
    S.b (up (lenS y65) H66) fun y67 H68 =>
    S.b (up (binB Try.prog .sub 3 (.int .i64 9223372036854775807) y56) H68) fun y69 H70 =>
    S.b (up (binB Try.prog .gtr 3 y67 y69) H70) fun y71 H72 =>
    S.i y71
    (S.b (none) fun y73 H74 =>
     S.b (none) fun _ H75 =>
     f41_J1 S C n (f41_L0 S C n m) y54 y55 y56 y65 y57 y58 y59 H75)
    (f41_J1 S C n (f41_L0 S C n m) y54 y55 y56 y65 y57 y58 y59 H72))
   (S.b (C 54 [y56] H62) fun y90 H91 =>
    S.b (up (slcS 1 y90 none (some y56) (some y56)) H91) fun y92 H93 =>
    S.b (up (iAddrS 1 y54 (.int .i64 0)) H93) fun y94 H95 =>
    S.b (ldC y94 H95) fun y96 H97 =>
    S.b (cpy 1 y92 y96 H97) fun y98 H99 =>
    S.b (up (slcS 1 y54 (some (.int .i64 1)) none none) H99) fun y100 H101 =>
    S.b (up (lenS y100) H101) fun y102 H103 =>
    f41_L1 S C n n y55 y92 y98 y100 y102 (.int .i64 0) H103)

noncomputable def f41_L0G (S : Seam (Value × Heap)) (C : CallF) (n : Nat) (R0 : Value→Value→Value→Value→Value→Value→Heap→Option (Value × Heap)) (P1 : Env → Heap → Option (Value × Heap)) (env : Env) (H : Heap) : Option (Value × Heap) :=
 S.b (up (binB Try.prog .lss 3 (env 44) (env 43)) H) fun y131 H132 =>
 S.i y131
 (S.b (up (iAddrS 1 (env 42) (env 44)) H132) fun y133 H134 =>
  S.b (ldC y133 H134) fun y135 H136 =>
  S.b (up (lenS y135) H136) fun y137 H138 =>
  S.b (up (binB Try.prog .sub 3 (.int .i64 9223372036854775807) (env 5)) H138) fun y139 H140 =>
  S.b (up (binB Try.prog .gtr 3 y137 y139) H140) fun y141 H142 =>
  S.i y141
  (S.b (none) fun y143 H144 =>
   S.b (none) fun u145 H146 =>
   S.b (up (lenS y135) H146) fun y147 H148 =>
   S.b (up (binB Try.prog .add 3 (env 5) y147) H148) fun y149 H150 =>
   S.b (up (binB Try.prog .add 3 (env 44) (.int .i64 1)) H150) fun y151 H152 =>
   R0 (env 0) (env 1) y149 (env 42) (env 43) y151 H152)
  (S.b (up (lenS y135) H142) fun y153 H154 =>
   S.b (up (binB Try.prog .add 3 (env 5) y153) H154) fun y155 H156 =>
   S.b (up (binB Try.prog .add 3 (env 44) (.int .i64 1)) H156) fun y157 H158 =>
   R0 (env 0) (env 1) y155 (env 42) (env 43) y157 H158))
 (S.b (C 54 [(env 5)] H132) fun y159 H160 =>
  S.b (up (slcS 1 y159 none (some (env 5)) (some (env 5))) H160) fun y161 H162 =>
  S.b (up (iAddrS 1 (env 0) (.int .i64 0)) H162) fun y163 H164 =>
  S.b (ldC y163 H164) fun y165 H166 =>
  S.b (cpy 1 y161 y165 H166) fun y167 H168 =>
  S.b (up (slcS 1 (env 0) (some (.int .i64 1)) none none) H168) fun y169 H170 =>
  S.b (up (lenS y169) H170) fun y171 H172 =>
  P1 (putE 92 (putE 92 (putE 92 (putE 92 (putE 92 (putE 92 (putE 92 (putE 92 (putE 92 (putE 92 (putE 92 (putE 92 (putE 92 (putE 92 (putE 92 (putE 92 (putE 92 env (some 45) y131) (some 59) (env 5)) (some 60) y159) (some 61) (env 5)) (some 62) (env 5)) (some 63) y161) (some 8) y161) (some 64) y161) (some 65) (env 0)) (some 66) y163) (some 67) y165) (some 68) y167) (some 9) y167) (some 69) (env 0)) (some 70) y169) (some 71) y171) (some 72) (.int .i64 0)) H172)

theorem f41_L0_eq (S : Seam (Value × Heap)) (C : CallF) (n : Nat) : ∀ (m : Nat) (env : Env) (H : Heap), aloopK (acodeK S Try.prog C n 92 (cAt f41_c [1, 1, 1, 1, 1, 0, 1, 0, 0])) m env H (kAt S Try.prog C n 92 f41_c [1, 1, 1, 1, 1, 0, 1, 0] (fin Try.prog Try.f41)) = f41_L0 S C n m (env 0) (env 1) (env 5) (env 42) (env 43) (env 44) H := by
  intro m env H
  refine aloopK_eq (L := fun m env H => f41_L0 S C n m (env 0) (env 1) (env 5) (env 42) (env 43) (env 44) H) (fun env H => rfl) (fun m env H => ?_) m env H
  have h1 : acodeK S Try.prog C n 92 (cAt f41_c [1, 1, 1, 1, 1, 0, 1, 0, 0]) env H (onNormal (fun env' H' => f41_L0 S C n m (env' 0) (env' 1) (env' 5) (env' 42) (env' 43) (env' 44) H') (kAt S Try.prog C n 92 f41_c [1, 1, 1, 1, 1, 0, 1, 0] (fin Try.prog Try.f41))) = f41_L0G S C n (f41_L0 S C n m) (fun env H => aloopK (acodeK S Try.prog C n 92 (cAt f41_c [1, 1, 1, 1, 1, 1, 1, 1, 0, 1, 0, 0])) n env H (kAt S Try.prog C n 92 f41_c [1, 1, 1, 1, 1, 1, 1, 1, 0, 1, 0] (fin Try.prog Try.f41))) env H := by kernel_rfl
  have e0 : (fun env H => aloopK (acodeK S Try.prog C n 92 (cAt f41_c [1, 1, 1, 1, 1, 1, 1, 1, 0, 1, 0, 0])) n env H (kAt S Try.prog C n 92 f41_c [1, 1, 1, 1, 1, 1, 1, 1, 0, 1, 0] (fin Try.prog Try.f41))) = (fun env H => f41_L1 S C n n (env 1) (env 8) (env 9) (env 70) (env 71) (env 72) H) := by funext env H; exact f41_L1_eq S C n n env H
  rw [e0] at h1
  exact h1.trans (by kernel_rfl)


noncomputable def f41_J2 (S : Seam (Value × Heap)) (C : CallF) (n : Nat) (y48 y49 y50 : Value) (H51 : Heap) : Option (Value × Heap) :=
 S.b (up (lenS y48) H51) fun y52 H53 =>
 f41_L0 S C n n y48 y49 y50 y48 y52 (.int .i64 0) H53

noncomputable def f41_J3 (S : Seam (Value × Heap)) (C : CallF) (n : Nat) (y34 y35 y36 : Value) (H37 : Heap) : Option (Value × Heap) :=
 S.b (up (lenS y35) H37) fun y38 H39 =>
 S.b (up (lenS y34) H39) fun y40 H41 =>
 S.b (up (binB Try.prog .sub 3 y40 (.int .i64 1)) H41) fun y42 H43 =>
 S.b (up (binB Try.prog .mul 3 y38 y42) H43) fun y44 H45 =>
 S.b (up (binB Try.prog .add 3 y36 y44) H45) fun y46 H47 =>
 f41_J2 S C n y34 y35 y46 H47

noncomputable def f41 (S : Seam (Value × Heap)) (C : CallF) (n : Nat) (x0 : Value) (x1 : Value) (H : Heap) : Option (Value × Heap) :=
 S.b (up (lenS x0) H) fun y1 H2 =>
 S.b (up (binB Try.prog .eql 3 y1 (.int .i64 0)) H2) fun y3 H4 =>
 S.i y3
 (S.b (bldS 1 0 [(.int .u8 0)] [] H4) fun y5 H6 =>
  some (y5, H6))
 (S.b (up (lenS x0) H4) fun y7 H8 =>
  S.b (up (binB Try.prog .eql 3 y7 (.int .i64 1)) H8) fun y9 H10 =>
  S.i y9
  (S.b (up (iAddrS 1 x0 (.int .i64 0)) H10) fun y11 H12 =>
   S.b (ldC y11 H12) fun y13 H14 =>
   S.b (app 1 1 (.slice none 0 0) y13 H14) fun y15 H16 =>
   some (y15, H16))
  (S.b (up (lenS x1) H10) fun y17 H18 =>
   S.b (up (binB Try.prog .gtr 3 y17 (.int .i64 0)) H18) fun y19 H20 =>
   S.i y19
   (S.b (up (lenS x1) H20) fun y21 H22 =>
    S.b (up (lenS x0) H22) fun y23 H24 =>
    S.b (up (binB Try.prog .sub 3 y23 (.int .i64 1)) H24) fun y25 H26 =>
    S.b (up (binB Try.prog .quo 3 (.int .i64 9223372036854775807) y25) H26) fun y27 H28 =>
    S.b (up (binB Try.prog .geq 3 y21 y27) H28) fun y29 H30 =>
    S.i y29
    (S.b (none) fun y31 H32 =>
     S.b (none) fun _ H33 =>
     f41_J3 S C n x0 x1 (.int .i64 0) H33)
    (f41_J3 S C n x0 x1 (.int .i64 0) H30))
   (f41_J2 S C n x0 x1 (.int .i64 0) H20)))

noncomputable def f41G (S : Seam (Value × Heap)) (C : CallF) (n : Nat) (P0 : Env → Heap → Option (Value × Heap)) (x0 : Value) (x1 : Value) (H : Heap) : Option (Value × Heap) :=
 S.b (up (lenS x0) H) fun y173 H174 =>
 S.b (up (binB Try.prog .eql 3 y173 (.int .i64 0)) H174) fun y175 H176 =>
 S.i y175
 (S.b (bldS 1 0 [(.int .u8 0)] [] H176) fun y177 H178 =>
  some (y177, H178))
 (S.b (up (lenS x0) H176) fun y179 H180 =>
  S.b (up (binB Try.prog .eql 3 y179 (.int .i64 1)) H180) fun y181 H182 =>
  S.i y181
  (S.b (up (iAddrS 1 x0 (.int .i64 0)) H182) fun y183 H184 =>
   S.b (ldC y183 H184) fun y185 H186 =>
   S.b (app 1 1 (.slice none 0 0) y185 H186) fun y187 H188 =>
   some (y187, H188))
  (S.b (up (lenS x1) H182) fun y189 H190 =>
   S.b (up (binB Try.prog .gtr 3 y189 (.int .i64 0)) H190) fun y191 H192 =>
   S.i y191
   (S.b (up (lenS x1) H192) fun y193 H194 =>
    S.b (up (lenS x0) H194) fun y195 H196 =>
    S.b (up (binB Try.prog .sub 3 y195 (.int .i64 1)) H196) fun y197 H198 =>
    S.b (up (binB Try.prog .quo 3 (.int .i64 9223372036854775807) y197) H198) fun y199 H200 =>
    S.b (up (binB Try.prog .geq 3 y193 y199) H200) fun y201 H202 =>
    S.i y201
    (S.b (none) fun y203 H204 =>
     S.b (none) fun u205 H206 =>
     S.b (up (lenS x1) H206) fun y207 H208 =>
     S.b (up (lenS x0) H208) fun y209 H210 =>
     S.b (up (binB Try.prog .sub 3 y209 (.int .i64 1)) H210) fun y211 H212 =>
     S.b (up (binB Try.prog .mul 3 y207 y211) H212) fun y213 H214 =>
     S.b (up (binB Try.prog .add 3 (.int .i64 0) y213) H214) fun y215 H216 =>
     S.b (up (lenS x0) H216) fun y217 H218 =>
     P0 (putE 92 (putE 92 (putE 92 (putE 92 (putE 92 (putE 92 (putE 92 (putE 92 (putE 92 (putE 92 (putE 92 (putE 92 (putE 92 (putE 92 (putE 92 (putE 92 (putE 92 (putE 92 (putE 92 (putE 92 (putE 92 (putE 92 (putE 92 (putE 92 (putE 92 (putE 92 (putE 92 (putE 92 (putE 92 (putE 92 (putE 92 (putE 92 (env0 [x0, x1]) (some 4) (.slice none 0 0)) (some 12) x0) (some 13) y173) (some 14) y175) (some 16) x0) (some 17) y179) (some 18) y181) (some 5) (.int .i64 0)) (some 23) x1) (some 24) y189) (some 25) y191) (some 26) x1) (some 27) y193) (some 28) x0) (some 29) y195) (some 30) y197) (some 31) y199) (some 32) y201) (some 33) y203) none u205) (some 34) (.int .i64 0)) (some 35) x1) (some 36) y207) (some 37) x0) (some 38) y209) (some 39) y211) (some 40) y213) (some 41) y215) (some 5) y215) (some 42) x0) (some 43) y217) (some 44) (.int .i64 0)) H218)
    (S.b (up (lenS x1) H202) fun y219 H220 =>
     S.b (up (lenS x0) H220) fun y221 H222 =>
     S.b (up (binB Try.prog .sub 3 y221 (.int .i64 1)) H222) fun y223 H224 =>
     S.b (up (binB Try.prog .mul 3 y219 y223) H224) fun y225 H226 =>
     S.b (up (binB Try.prog .add 3 (.int .i64 0) y225) H226) fun y227 H228 =>
     S.b (up (lenS x0) H228) fun y229 H230 =>
     P0 (putE 92 (putE 92 (putE 92 (putE 92 (putE 92 (putE 92 (putE 92 (putE 92 (putE 92 (putE 92 (putE 92 (putE 92 (putE 92 (putE 92 (putE 92 (putE 92 (putE 92 (putE 92 (putE 92 (putE 92 (putE 92 (putE 92 (putE 92 (putE 92 (putE 92 (putE 92 (putE 92 (putE 92 (putE 92 (putE 92 (env0 [x0, x1]) (some 4) (.slice none 0 0)) (some 12) x0) (some 13) y173) (some 14) y175) (some 16) x0) (some 17) y179) (some 18) y181) (some 5) (.int .i64 0)) (some 23) x1) (some 24) y189) (some 25) y191) (some 26) x1) (some 27) y193) (some 28) x0) (some 29) y195) (some 30) y197) (some 31) y199) (some 32) y201) (some 34) (.int .i64 0)) (some 35) x1) (some 36) y219) (some 37) x0) (some 38) y221) (some 39) y223) (some 40) y225) (some 41) y227) (some 5) y227) (some 42) x0) (some 43) y229) (some 44) (.int .i64 0)) H230))
   (S.b (up (lenS x0) H192) fun y231 H232 =>
    P0 (putE 92 (putE 92 (putE 92 (putE 92 (putE 92 (putE 92 (putE 92 (putE 92 (putE 92 (putE 92 (putE 92 (putE 92 (putE 92 (putE 92 (env0 [x0, x1]) (some 4) (.slice none 0 0)) (some 12) x0) (some 13) y173) (some 14) y175) (some 16) x0) (some 17) y179) (some 18) y181) (some 5) (.int .i64 0)) (some 23) x1) (some 24) y189) (some 25) y191) (some 42) x0) (some 43) y231) (some 44) (.int .i64 0)) H232)))

theorem f41_main (S : Seam (Value × Heap)) (C : CallF) (n : Nat) (x0 : Value) (x1 : Value) (H : Heap) : acodeK S Try.prog C n 92 f41_c (env0 [x0, x1]) H (fin Try.prog Try.f41) = f41 S C n x0 x1 H := by
  have h1 : acodeK S Try.prog C n 92 f41_c (env0 [x0, x1]) H (fin Try.prog Try.f41) = f41G S C n (fun env H => aloopK (acodeK S Try.prog C n 92 (cAt f41_c [1, 1, 1, 1, 1, 0, 1, 0, 0])) n env H (kAt S Try.prog C n 92 f41_c [1, 1, 1, 1, 1, 0, 1, 0] (fin Try.prog Try.f41))) x0 x1 H := by kernel_rfl
  have e0 : (fun env H => aloopK (acodeK S Try.prog C n 92 (cAt f41_c [1, 1, 1, 1, 1, 0, 1, 0, 0])) n env H (kAt S Try.prog C n 92 f41_c [1, 1, 1, 1, 1, 0, 1, 0] (fin Try.prog Try.f41))) = (fun env H => f41_L0 S C n n (env 0) (env 1) (env 5) (env 42) (env 43) (env 44) H) := by funext env H; exact f41_L0_eq S C n n env H
  rw [e0] at h1
  exact h1.trans (by kernel_rfl)


theorem f41_eq {gl : Bool} {E : Ext} (hE : E 41 = none) (n : Nat) (x0 : Value) (x1 : Value) (H : Heap) : acall Try.prog gl E (n + 1) 41 [x0, x1] H = f41 real (acall Try.prog gl E n) n x0 x1 H :=
  (acall_eq (N := 92) Try.func41 (by kernel_rfl) (by kernel_rfl) hE (okgl f41_c (by kernel_rfl)) (by kernel_rfl)).trans (f41_main real _ n x0 x1 H)

end Go.Eng
