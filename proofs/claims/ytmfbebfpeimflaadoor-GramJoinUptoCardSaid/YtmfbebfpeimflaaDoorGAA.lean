/- The law that is awake. -/
import Derived.Test.YtmfbebfpeimflaaDoorGZ
set_option linter.unusedVariables false
set_option linter.unusedSimpArgs false
set_option linter.unusedSectionVars false
set_option maxRecDepth 100000
namespace Go.Eng
open Go Go.Proofs

/-! ### plainly, step by step -/
/-- cutN, step by step. -/
def cutF : Nat → Nat → List UInt8 → List Tok × Option Nat
  | 0, _, _ => ([], none)
  | _ + 1, _, [] => ([], none)
  | n + 1, a, c :: r =>
    if wBlank c then cutF n (a + 1) r
    else if c = 35 then cutF n (a + 1 + (r.takeWhile (fun x => decide (x ≠ 10))).length) (r.dropWhile (fun x => decide (x ≠ 10)))
    else if (wordN (c :: r)).1 = 0 then ([], some a)
    else (⟨(wordN (c :: r)).1, a, a + (wordN (c :: r)).2⟩ :: (cutF n (a + (wordN (c :: r)).2) ((c :: r).drop (wordN (c :: r)).2)).1, (cutF n (a + (wordN (c :: r)).2) ((c :: r).drop (wordN (c :: r)).2)).2)
theorem cutF_eq : ∀ (n a : Nat) (l : List UInt8), l.length ≤ n → cutF n a l = cutN a l := by
  intro n
  induction n with
  | zero =>
    intro a l h
    have : l = [] := List.length_eq_zero_iff.1 (by omega)
    subst this; simp [cutF, cut_nil]
  | succ n ih =>
    intro a l h
    cases l with
    | nil => simp [cutF, cut_nil]
    | cons c r =>
      simp only [List.length_cons] at h
      have h1 := dropWhile_le (fun x : UInt8 => decide (x ≠ 10)) r
      simp only [cutF]
      by_cases hb : wBlank c = true
      · rw [if_pos hb, cut_blank hb, ih _ _ (by omega)]
      · rw [if_neg hb]
        by_cases hr : c = 35
        · subst hr
          rw [if_pos rfl, cut_remark, ih _ _ (by omega)]
        · rw [if_neg hr]
          by_cases hw : (wordN (c :: r)).1 = 0
          · rw [if_pos hw, cut_bad (by simpa using hb) hr hw]
          · have := (word_ext hw).1
            rw [if_neg hw, cut_word (by simpa using hb) hr hw, ih _ _ (by simp only [List.length_drop, List.length_cons]; omega)]
def gparseF (b : List UInt8) : Fl × Int × Int := match cutF b.length 0 b with
  | (_, some e) => (Fl.none, (e : Int), 140)
  | (ts, none) => saidN ts b.length (readN (wordsOf b ts))
theorem gparse_F {b : List UInt8} {x : Fl × Int × Int} (hl : b.length ≤ 8192) (h : gparseF b = x) : gparse b = x := by
  rw [← h]
  unfold gparse gparseF
  rw [if_neg (by omega), cutF_eq _ _ _ (Nat.le_refl _)]
  cases h1 : (cutN 0 b).2 with
  | some e =>
    have : cutN 0 b = ((cutN 0 b).1, some e) := by rw [← h1]
    rw [this]
  | none =>
    have : cutN 0 b = ((cutN 0 b).1, none) := by rw [← h1]
    rw [this]
theorem boxF {H : Heap} {R : Nat → Prop} {f : Fl} {cs : List Value} (h : Rp.rep R H f cs) {H' : Heap} : stV 5 (ptr H'.n 0) (.agg cs.toArray) (H'.push ⟨NOFILE, 1, true⟩) = some (undef, H'.push ⟨cs, 1, true⟩) := stA_push rfl (Rp.len h) (Rp.one h)
theorem Rp.up {α : Type} [Rp α] {H H' : Heap} {x : α} {cs : List Value} (h : Rp.rep (all H) H x cs) (k : Keep (all H) H H') : Rp.rep (all H') H' x cs := Rp.mono (Rp.keep h k) (upA k)
/-- A text's bytes, parsed. -/
theorem push_U {H : Heap} {l : List UInt8} : SlU (all (H.push ⟨B (U l), 1, true⟩)) (H.push ⟨B (U l), 1, true⟩) l (.slice (some ⟨H.n, 0, none⟩) (U l).length (U l).length) := by
  have := push_Sl (R := all (H.push ⟨B (U l), 1, true⟩)) (H := H) (d := U l) (by simp [all, push_n])
  rw [U_len] at this ⊢
  exact this
theorem refuses_ok {H : Heap} {s : List UInt8} {e : Nat} (hL : Lg H) (hs : s.length ≤ 8192) (h : gparse s = (Fl.none, (e : Int), 150)) :
    ∃ H', Cl 23 [.string (bs s), .int .i64 (e : Int)] H (.bool true) H' ∧ Keep (all H) H H' := by
  have hk : Keep (all H) H (H.push ⟨B (U s), 1, true⟩) := push_keep
  obtain ⟨cs, H', w1, w2, w3⟩ := parse_ok (Box.up hL hk) (push_U (H := H) (l := s)) (by omega)
  rw [h] at w1 w3
  have kb : Keep (all H') H' (H'.push ⟨cs, 1, true⟩) := push_keep
  refine ⟨_, ?_, (hk.tr w2).tr kb⟩
  refine Ev.enter (fun n => f23_eq rfl n _ _ _) ?_
  simp only [f23, ruA, ruB, ruC, ruE, ruD, lenStr, Int.reduceBEq, Int.reduceBNe, ofStr_ok (show s.length ≤ mostBytes from Nat.le_trans hs (by decide))]
  refine Ev.callC w1 ?_
  have e1 : ((e : Int) == (e : Int)) = true := by simp
  simp only [ruA, ruB, ruC, ruE, ruD, lenStr, Int.reduceBEq, Int.reduceBNe, newF, boxF w3, e1]
  exact Ev.pure _
def AWK1 : List UInt8 := [105, 109, 112, 111, 114, 116, 32, 34, 97, 46, 103, 34, 59, 32, 115, 116, 97, 114, 116, 32, 101, 59]
def AWK2 : List UInt8 := [114, 117, 108, 101, 32, 101, 32, 58, 32, 101, 32, 112, 108, 117, 115, 32, 101, 32, 112, 114, 101, 99, 32, 108, 111, 119, 32, 124, 32, 110, 117, 109, 32, 124, 59]
def AF1 : Fl := ⟨[[97, 46, 103]], [101], [], [], []⟩
def AF2 : Fl := ⟨[], [], [], [], [⟨[101], [⟨[[101], [112, 108, 117, 115], [101]], [108, 111, 119]⟩, ⟨[[110, 117, 109]], []⟩, ⟨[], []⟩]⟩]⟩
theorem awk1_is : gparse AWK1 = (AF1, 0, 0) := gparse_F (by decide) (by kernel_rfl)
theorem awk2_is : gparse AWK2 = (AF2, 0, 0) := gparse_F (by decide) (by kernel_rfl)
theorem awk3_is : gparse [108, 101, 102, 116, 32, 59] = (Fl.none, ((5 : Nat) : Int), 150) := gparse_F (by decide) (by kernel_rfl)
theorem awk4_is : gparse [116, 101, 114, 109, 32, 110, 32, 61, 32, 120, 59] = (Fl.none, ((9 : Nat) : Int), 150) := gparse_F (by decide) (by kernel_rfl)
theorem awk5_is : gparse [114, 117, 108, 101, 32, 101, 32, 58, 32, 97] = (Fl.none, ((10 : Nat) : Int), 150) := gparse_F (by decide) (by kernel_rfl)
theorem awk1_bld {H : Heap} : bldS 1 22 [(.int .u8 0)] [(0, 1, (.int .u8 105)), (1, 1, (.int .u8 109)), (2, 1, (.int .u8 112)), (3, 1, (.int .u8 111)), (4, 1, (.int .u8 114)), (5, 1, (.int .u8 116)), (6, 1, (.int .u8 32)), (7, 1, (.int .u8 34)), (8, 1, (.int .u8 97)), (9, 1, (.int .u8 46)), (10, 1, (.int .u8 103)), (11, 1, (.int .u8 34)), (12, 1, (.int .u8 59)), (13, 1, (.int .u8 32)), (14, 1, (.int .u8 115)), (15, 1, (.int .u8 116)), (16, 1, (.int .u8 97)), (17, 1, (.int .u8 114)), (18, 1, (.int .u8 116)), (19, 1, (.int .u8 32)), (20, 1, (.int .u8 101)), (21, 1, (.int .u8 59))] H =
    some (.slice (some ⟨H.n, 0, none⟩) 22 22, H.push ⟨B (U AWK1), 1, true⟩) := by kernel_rfl
theorem awk2_bld {H : Heap} : bldS 1 35 [(.int .u8 0)] [(0, 1, (.int .u8 114)), (1, 1, (.int .u8 117)), (2, 1, (.int .u8 108)), (3, 1, (.int .u8 101)), (4, 1, (.int .u8 32)), (5, 1, (.int .u8 101)), (6, 1, (.int .u8 32)), (7, 1, (.int .u8 58)), (8, 1, (.int .u8 32)), (9, 1, (.int .u8 101)), (10, 1, (.int .u8 32)), (11, 1, (.int .u8 112)), (12, 1, (.int .u8 108)), (13, 1, (.int .u8 117)), (14, 1, (.int .u8 115)), (15, 1, (.int .u8 32)), (16, 1, (.int .u8 101)), (17, 1, (.int .u8 32)), (18, 1, (.int .u8 112)), (19, 1, (.int .u8 114)), (20, 1, (.int .u8 101)), (21, 1, (.int .u8 99)), (22, 1, (.int .u8 32)), (23, 1, (.int .u8 108)), (24, 1, (.int .u8 111)), (25, 1, (.int .u8 119)), (26, 1, (.int .u8 32)), (27, 1, (.int .u8 124)), (28, 1, (.int .u8 32)), (29, 1, (.int .u8 110)), (30, 1, (.int .u8 117)), (31, 1, (.int .u8 109)), (32, 1, (.int .u8 32)), (33, 1, (.int .u8 124)), (34, 1, (.int .u8 59))] H =
    some (.slice (some ⟨H.n, 0, none⟩) 35 35, H.push ⟨B (U AWK2), 1, true⟩) := by kernel_rfl
theorem mark_push {H : Heap} {n : Nat} {cs : List Value} (hn : n ≠ 0) : markV (.slice (some ⟨H.n, 0, none⟩) n n) (H.push ⟨cs, 1, true⟩) = some (.slice (some ⟨H.n, 0, none⟩) n n, H.push ⟨cs, 1, true⟩) := by
  simp [markV, push_self, hn, Blk.w_mk]
theorem STRL_at {l : List (List UInt8)} {i : Nat} {x : List UInt8} (h : l[i]? = some x) : (STRL l)[i]? = some (.string (bs x)) := by simp [STRL, h]
theorem awake_ok {H : Heap} (hL : Lg H) : ∃ H', Cl 12 [] H (.bool true) H' ∧ Keep (all H) H H' := by
  have k1 : Keep (all H) H (H.push ⟨B (U AWK1), 1, true⟩) := push_keep
  obtain ⟨c1, H2, a1, k2, r1⟩ := parse_ok (Box.up hL k1) (push_U (H := H) (l := AWK1)) (by decide)
  rw [awk1_is] at a1 r1
  have k3 : Keep (all H2) H2 (H2.push ⟨c1, 1, true⟩) := push_keep
  have g3 : (H2.push ⟨c1, 1, true⟩).get H2.n = some ⟨c1, 1, true⟩ := push_self
  have n3 : (H2.push ⟨c1, 1, true⟩).n = H2.n + 1 := push_n
  have b3 := boxF r1 (H' := H2)
  have r3 := Rp.up r1 k3
  have K3 := (k1.tr k2).tr k3
  generalize H2.push ⟨c1, 1, true⟩ = H3 at *
  have k4 : Keep (all H3) H3 (H3.push ⟨B (U AWK2), 1, true⟩) := push_keep
  obtain ⟨c2, H5, a2, k5, r5⟩ := parse_ok (Box.up hL (K3.tr k4)) (push_U (H := H3) (l := AWK2)) (by decide)
  rw [awk2_is] at a2 r5
  have k6 : Keep (all H5) H5 (H5.push ⟨c2, 1, true⟩) := push_keep
  have g6 : (H5.push ⟨c2, 1, true⟩).get H5.n = some ⟨c2, 1, true⟩ := push_self
  have b6 := boxF r5 (H' := H5)
  have r6 := Rp.up r5 k6
  have K36 := (k4.tr k5).tr k6
  have r7 := Rp.up r3 K36
  have g7 : (H5.push ⟨c2, 1, true⟩).get H2.n = some ⟨c1, 1, true⟩ := by rw [K36.2 _ (by show H2.n < H3.n; omega)]; exact g3
  generalize H5.push ⟨c2, 1, true⟩ = H6 at *
  obtain ⟨vI, vT, vP, vR, rfl, i1, _, _, _⟩ := rep_fl.1 r7
  obtain ⟨wI, wT, wP, wR, rfl, _, _, _, i2⟩ := rep_fl.1 r6
  have l1 : ldC (ptr H2.n 0) H6 = some (vI, H6) := Box.ld (R := fun _ => True) ⟨trivial, _, _, g7⟩ rfl
  have l2 : ldC (ptr H2.n 1) H6 = some (.string (bs AF1.S), H6) := Box.ld (R := fun _ => True) ⟨trivial, _, _, g7⟩ rfl
  have e1 : lenS vI = some (.int .i64 1) := Sl.lenS i1
  obtain ⟨p1, j1, j2⟩ := i1.at1 (i := 0) (STRL_at (x := [97, 46, 103]) rfl)
  have j1 : iAddrS 1 vI (.int .i64 0) = some p1 := j1
  have l3 : ldC (ptr H5.n 4) H6 = some (wR, H6) := Box.ld (R := fun _ => True) ⟨trivial, _, _, g6⟩ rfl
  have e3 : lenS wR = some (.int .i64 1) := Sli.lenS i2
  obtain ⟨xb, xo, xc, x1, _, x2, x3, _⟩ := i2.at (i := 0) (x := ⟨[101], [⟨[[101], [112, 108, 117, 115], [101]], [108, 111, 119]⟩, ⟨[[110, 117, 109]], []⟩, ⟨[], []⟩]⟩) rfl
  have x1 : iAddrS 2 wR (.int .i64 0) = some (ptr xb xo) := x1
  obtain ⟨wA, rfl, i3⟩ := rep_rl.1 x2
  have x4 : ldC (ptr xb xo) H6 = some (.string (bs [101]), H6) := x3 0 _ rfl
  have x5 := x3 1 _ rfl
  have e5 : lenS wA = some (.int .i64 3) := Sli.lenS i3
  obtain ⟨y1b, y1o, y1c, y11, _, y12, y13, _⟩ := i3.at (i := 0) (x := ⟨[[101], [112, 108, 117, 115], [101]], [108, 111, 119]⟩) rfl
  have y11 : iAddrS 2 wA (.int .i64 0) = some (ptr y1b y1o) := y11
  obtain ⟨s1, rfl, t1⟩ := rep_al.1 y12
  have y14 : ldC (ptr y1b y1o) H6 = some (s1, H6) := y13 0 _ rfl
  have y15 := y13 1 _ rfl
  have t1' : lenS s1 = some (.int .i64 3) := Sl.lenS t1
  obtain ⟨y2b, y2o, y2c, y21, _, y22, y23, _⟩ := i3.at (i := 1) (x := ⟨[[110, 117, 109]], []⟩) rfl
  have y21 : iAddrS 2 wA (.int .i64 1) = some (ptr y2b y2o) := y21
  obtain ⟨s2, rfl, t2⟩ := rep_al.1 y22
  have y24 : ldC (ptr y2b y2o) H6 = some (s2, H6) := y23 0 _ rfl
  have t2' : lenS s2 = some (.int .i64 1) := Sl.lenS t2
  obtain ⟨y3b, y3o, y3c, y31, _, y32, y33, _⟩ := i3.at (i := 2) (x := ⟨[], []⟩) rfl
  have y31 : iAddrS 2 wA (.int .i64 2) = some (ptr y3b y3o) := y31
  obtain ⟨s3, rfl, t3⟩ := rep_al.1 y32
  have y34 : ldC (ptr y3b y3o) H6 = some (s3, H6) := y33 0 _ rfl
  have t3' : lenS s3 = some (.int .i64 0) := Sl.lenS t3
  have K6 := K3.tr K36
  have hL6 := Box.up hL K6
  obtain ⟨H7, q1, k7⟩ := refuses_ok hL6 (by decide) awk3_is
  have hL7 := Box.up hL6 k7
  obtain ⟨H8, q2, k8⟩ := refuses_ok hL7 (by decide) awk4_is
  have hL8 := Box.up hL7 k8
  obtain ⟨H9, q3, k9⟩ := refuses_ok hL8 (by decide) awk5_is
  have m1 := mark_push (H := H) (n := 22) (cs := B (U AWK1)) (by decide)
  have m2 := mark_push (H := H3) (n := 35) (cs := B (U AWK2)) (by decide)
  have s1e : ((bs AF1.S).toList == ByteArray.toList ⟨#[101]⟩) = true := by kernel_rfl
  have s2e : ((bs [97, 46, 103]).toList == ByteArray.toList ⟨#[97, 46, 103]⟩) = true := by kernel_rfl
  have s3e : ((bs [101]).toList == ByteArray.toList ⟨#[101]⟩) = true := by kernel_rfl
  have s4e : ((bs [108, 111, 119]).toList == ByteArray.toList ⟨#[108, 111, 119]⟩) = true := by kernel_rfl
  refine ⟨H9, ?_, (((K6.tr k7).tr k8).tr k9)⟩
  refine Ev.enter (fun n => f12_eq rfl n _) ?_
  simp only [f12, ruA, ruB, ruC, ruE, ruD, lenStr, Int.reduceBEq, Int.reduceBNe, awk1_bld, m1]
  refine Ev.callC a1 ?_
  simp only [ruA, ruB, ruC, ruE, ruD, lenStr, Int.reduceBEq, Int.reduceBNe, newF, b3, awk2_bld, m2]
  refine Ev.callC a2 ?_
  simp only [ruA, ruB, ruC, ruE, ruD, lenStr, Int.reduceBEq, Int.reduceBNe, newF, b6, l1, l2, e1, j1, j2, l3, e3, x1, x4, x5, e5, y11, y14, y15, t1', y21, y24, t2', y31, y34, t3', s1e, s2e, s3e, s4e, Nat.add_zero]
  refine Ev.callC q1 ?_
  simp only [ruA, ruB, ruC, ruE, ruD, lenStr, Int.reduceBEq, Int.reduceBNe]
  refine Ev.callC q2 ?_
  simp only [ruA, ruB, ruC, ruE, ruD, lenStr, Int.reduceBEq, Int.reduceBNe]
  refine Ev.callC q3 ?_
  exact Ev.pure _
end Go.Eng
