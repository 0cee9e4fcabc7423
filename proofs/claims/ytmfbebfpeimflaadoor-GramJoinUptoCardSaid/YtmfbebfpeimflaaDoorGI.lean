/- Words, by the reference: Cut; two lists of words. -/
import Derived.Test.YtmfbebfpeimflaaDoorGH
import Derived.Test.YtmfbebfpeimflaaDoorEnhY
set_option linter.unusedVariables false
set_option linter.unusedSimpArgs false
set_option maxRecDepth 100000
namespace Go.Eng
open Go Go.Proofs

theorem resM1 {a : Value} : resM [some a] = some [a] := nr _
theorem one1 {a : Value} : one [a] = a := nr _
/-- The word that begins at a place. -/
def tokAt (a : Nat) (l : List UInt8) : Tok := if (wordN l).1 = 0 then ⟨0, 0, 0⟩ else ⟨(wordN l).1, a, a + (wordN l).2⟩
abbrev tokV (t : Tok) : Value := .agg #[.int .i64 (t.K : Int), .int .i64 (t.F : Int), .int .i64 (t.T : Int)]
theorem bld0z {H : Heap} : bld [.int .i64 0, .int .i64 0, .int .i64 0] [] H = some (.agg #[.int .i64 0, .int .i64 0, .int .i64 0], H) := by kernel_rfl
theorem new3 {H : Heap} : newV [.int .i64 0, .int .i64 0, .int .i64 0] H = some (ptr H.n 0, H.push ⟨[.int .i64 0, .int .i64 0, .int .i64 0], 1, true⟩) := newV_box rfl
/-- A block of three numbers is written and read. -/
theorem st3 {H : Heap} {b : Nat} {cs : List Value} {x y z : Int} (h : H.get b = some ⟨cs, 1, true⟩) (hc : cs.length = 3) :
    stV 3 (ptr b 0) (.agg #[.int .i64 x, .int .i64 y, .int .i64 z]) H = some (undef, H.upd b (some ⟨[.int .i64 x, .int .i64 y, .int .i64 z], 1, true⟩)) ∧
    Eng.ldA 3 (ptr b 0) (H.upd b (some ⟨[.int .i64 x, .int .i64 y, .int .i64 z], 1, true⟩)) = some (.agg #[.int .i64 x, .int .i64 y, .int .i64 z], H.upd b (some ⟨[.int .i64 x, .int .i64 y, .int .i64 z], 1, true⟩)) := by
  constructor
  · have e : splice cs 0 [.int .i64 x, .int .i64 y, .int .i64 z] = [.int .i64 x, .int .i64 y, .int .i64 z] := by simp [splice, hc]
    simp only [stV, h, Value.cells, e]
    rw [if_pos ⟨rfl, rfl, by omega, Blk.w_mk⟩]
  · simp only [Eng.ldA, upd_self]
    simp [cut]

theorem kindN_word {c : UInt8} {r : List UInt8} (h1 : wSign c = false) (h2 : c ≠ 34) (h3 : c ≠ 47) (h4 : (wLet c && !wDig c) = true) :
    kindN ((c :: r).takeWhile wLet) = ((wordN (c :: r)).1 : Int) ∧ ((wordN (c :: r)).1 ≠ 0 → (wordN (c :: r)).2 = lettersN (c :: r)) := by
  simp only [wordN, h1, Bool.false_eq_true, if_false, if_neg h2, if_neg h3, if_pos h4, kindN]
  cases kws.idxOf? ((c :: r).takeWhile wLet) with
  | some i => exact ⟨by simp, fun _ => rfl⟩
  | none =>
    by_cases h : lettersN (c :: r) ≤ 24
    · have : ¬ 24 < ((c :: r).takeWhile wLet).length := by
        have : lettersN (c :: r) = ((c :: r).takeWhile wLet).length := rfl
        omega
      simp only [if_pos h, if_neg this]
      exact ⟨rfl, fun _ => trivial⟩
    · have : 24 < ((c :: r).takeWhile wLet).length := by
        have : lettersN (c :: r) = ((c :: r).takeWhile wLet).length := rfl
        omega
      simp only [if_neg h, if_pos this]
      exact ⟨rfl, fun h => absurd rfl h⟩
theorem tw_at {l : List UInt8} {j : Nat} (h : j < lettersN l) : ∃ c, l[j]? = some c ∧ wLet c = true := by
  have hl : lettersN l ≤ l.length := takeWhile_le _
  refine ⟨l[j]'(by omega), List.getElem?_eq_getElem _, ?_⟩
  have h1 : (l.takeWhile wLet)[j]? = some (l[j]'(by omega)) := by
    rw [← take_takeWhile (p := wLet) (l := l), List.getElem?_take, if_pos (show j < (l.takeWhile wLet).length from h), List.getElem?_eq_getElem]
  have := takeWhile_idem (p := wLet) (l := l)
  rw [List.all_eq_true] at this
  exact this _ (List.mem_of_getElem? h1)
theorem tw_end {l : List UInt8} : l[lettersN l]? = none ∨ ∃ c, l[lettersN l]? = some c ∧ wLet c = false := by
  have h := drop_takeWhile (p := wLet) (l := l)
  cases hc : l[lettersN l]? with
  | none => exact .inl rfl
  | some c =>
    right
    refine ⟨c, rfl, ?_⟩
    have : (l.drop (l.takeWhile wLet).length).head? = some c := by
      rw [List.head?_drop]; exact hc
    rw [this] at h
    simpa using h
theorem rword_let {R : Nat → Prop} {H : Heap} {b : List UInt8} {v : Value} (hs : SlU R H b v) {a : Nat} {c : UInt8} {r : List UInt8} (hd : b.drop a = c :: r) (ha : a < b.length) (hb : b.length < 9223372036854775700) {x4 x5 : Nat}
    (g4 : H.get x4 = some ⟨[.int .i64 0, .int .i64 0, .int .i64 0], 1, true⟩) (l5 : Eng.ldA 3 (ptr x5 0) H = some (.agg #[.int .i64 0, .int .i64 0, .int .i64 0], H))
    (h1 : wSign c = false) (h2 : c ≠ 34) (h3 : c ≠ 47) (h4 : (wLet c && !wDig c) = true) :
    ∀ (k j : Nat), j + k = lettersN (c :: r) → Ev (fun n m => f38_L0 real (AC n) n m v (.int .i64 (a : Int)) (ptr x4 0) (ptr x5 0) (.int .i64 ((a + j : Nat) : Int)) H) (tokV (tokAt a (c :: r)), H.upd x4 (some ⟨TOK (tokAt a (c :: r)), 1, true⟩)) := by
  have hlen : (c :: r).length = b.length - a := by rw [← hd, List.length_drop]
  have hle : lettersN (c :: r) ≤ (c :: r).length := takeWhile_le _
  have hat : ∀ j, b[a + j]? = (c :: r)[j]? := fun j => by rw [← hd, List.getElem?_drop]
  obtain ⟨kw1, kw2⟩ := kindN_word (r := r) h1 h2 h3 h4
  intro k
  induction k with
  | zero =>
    intro j hj
    obtain rfl : j = lettersN (c :: r) := by omega
    -- behind the letters
    have fin : Ev (fun n m => bnd (up (slcS 1 v (some (.int .i64 (a : Int))) (some (.int .i64 ((a + lettersN (c :: r) : Nat) : Int))) none) H) fun x95 H1 =>
        bnd (toStr x95 H1) fun x96 H2 => bnd (AC n 61 [x96] H2) fun x97 H3 => bnd (up (binB Tryd.prog .eql 3 x97 (.int .i64 0)) H3) fun x99 H4 =>
        iff x99 (bnd (ldA 3 (ptr x5 0) H4) fun x100 H5 => bnd (stV 3 (ptr x4 0) x100 H5) fun _ H6 => (resM [(ldA 3 (ptr x4 0) H6).map (·.1)]).map fun l => (one l, H6))
          (bnd (bld [.int .i64 0, .int .i64 0, .int .i64 0] [(0, 1, x97), (1, 1, .int .i64 (a : Int)), (2, 1, .int .i64 ((a + lettersN (c :: r) : Nat) : Int))] H4) fun x104 H5 => bnd (stV 3 (ptr x4 0) x104 H5) fun _ H6 => (resM [(ldA 3 (ptr x4 0) H6).map (·.1)]).map fun l => (one l, H6)))
        (tokV (tokAt a (c :: r)), H.upd x4 (some ⟨TOK (tokAt a (c :: r)), 1, true⟩)) := by
      obtain ⟨u, u1, u2⟩ := hs.part (k := .i64) (k' := .i64) (i := a) (j := a + lettersN (c :: r)) (by omega) (by omega)
      have et : (b.take (a + lettersN (c :: r))).drop a = (c :: r).takeWhile wLet := by
        rw [List.drop_take, hd, Nat.add_sub_cancel_left]
        exact take_takeWhile
      rw [et] at u2
      simp only [u1, bnd_up, toStr_U u2, bnd_some]
      refine Ev.callC (kind_ok _ H) ?_
      rw [kw1]
      by_cases hw : (wordN (c :: r)).1 = 0
      · have e : (((wordN (c :: r)).1 : Int) == 0) = true := by rw [wd0, decide_eq_true hw]
        obtain ⟨s1, s2⟩ := st3 (x := 0) (y := 0) (z := 0) g4 rfl
        have et : tokAt a (c :: r) = ⟨0, 0, 0⟩ := by unfold tokAt; rw [if_pos hw]
        rw [et]
        simp only [b_eql, bnd_up, e, iff_t, l5, bnd_some, s1, s2, Option.map_some, resM1, one1]
        exact Ev.pure _
      · have e : (((wordN (c :: r)).1 : Int) == 0) = false := by rw [wd0, decide_eq_false hw]
        obtain ⟨s1, s2⟩ := st3 (x := ((wordN (c :: r)).1 : Int)) (y := (a : Int)) (z := ((a + lettersN (c :: r) : Nat) : Int)) g4 rfl
        have et : tokAt a (c :: r) = ⟨(wordN (c :: r)).1, a, a + lettersN (c :: r)⟩ := by unfold tokAt; rw [if_neg hw, kw2 hw]
        rw [et]
        simp only [b_eql, bnd_up, e, iff_f, bld3, bnd_some, s1, s2, Option.map_some, resM1, one1]
        exact Ev.pure _
    refine Ev.step (fun n m => f38_L0.eq_2 _ _ _ _ _ _ _ _ _ _) ?_
    rcases tw_end (l := c :: r) with he | ⟨d, he, hdl⟩
    · have hge : b.length ≤ a + lettersN (c :: r) := by
        have := List.getElem?_eq_none_iff.1 he
        omega
      simp only [ruA, ruB, ruC, ruE, ruD, lenStr, Int.reduceBEq, Int.reduceBNe, hs.len, idx_ge hge]
      exact fin
    · have hlt : a + lettersN (c :: r) < b.length := by
        have := (List.getElem?_eq_some_iff.1 he).1
        omega
      obtain ⟨p, p1, p2⟩ := hs.at (i := a + lettersN (c :: r)) (c := d) (by rw [hat, he])
      simp only [ruA, ruB, ruC, ruE, ruD, lenStr, Int.reduceBEq, Int.reduceBNe, hs.len, idx_lt hlt, p1, p2]
      refine Ev.callC (let_rok d H) ?_
      simp only [ruA, ruB, ruC, ruE, ruD, lenStr, Int.reduceBEq, Int.reduceBNe, hdl]
      exact fin
  | succ k ih =>
    intro j hj
    obtain ⟨d, hdc, hdl⟩ := tw_at (l := c :: r) (j := j) (by omega)
    have hlt : a + j < b.length := by omega
    obtain ⟨p, p1, p2⟩ := hs.at (i := a + j) (c := d) (by rw [hat, hdc])
    refine Ev.step (fun n m => f38_L0.eq_2 _ _ _ _ _ _ _ _ _ _) ?_
    simp only [ruA, ruB, ruC, ruE, ruD, lenStr, Int.reduceBEq, Int.reduceBNe, hs.len, idx_lt hlt, p1, p2]
    refine Ev.callC (let_rok d H) ?_
    simp only [ruA, ruB, ruC, ruE, ruD, lenStr, Int.reduceBEq, Int.reduceBNe, hdl, idx_up (show a + j < 9223372036854775807 by omega)]
    have := ih (j + 1) (by omega)
    rw [show a + (j + 1) = a + j + 1 by omega] at this
    exact this
theorem rword_ok {H : Heap} {b : List UInt8} {v : Value} {R : Nat → Prop} (hR : Rb R H) (hs : SlU R H b v) {a : Nat} {c : UInt8} {r : List UInt8} (hd : b.drop a = c :: r) (hb : b.length < 9223372036854775700) :
    ∃ H', Cl 38 [v, .int .i64 (a : Int)] H (tokV (tokAt a (c :: r))) H' ∧ Keep (all H) H H' := by
  have ha : a < b.length := by
    rcases Nat.lt_or_ge a b.length with h | h
    · exact h
    · rw [List.drop_eq_nil_of_le h] at hd; cases hd
  have hat : ∀ j, b[a + j]? = (c :: r)[j]? := fun j => by rw [← hd, List.getElem?_drop]
  have hba : b[a]? = some c := hat 0
  have hda : b.drop (a + 1) = r := by
    have : (b.drop a).drop 1 = r := by rw [hd]; rfl
    rwa [List.drop_drop] at this
  have hlen : r.length + 1 = b.length - a := by
    have := congrArg List.length hd
    simpa using this.symm
  have k1 : Keep (all H) H (H.push ⟨[.int .i64 0, .int .i64 0, .int .i64 0], 1, true⟩) := push_keep
  have k2 : Keep (all (H.push ⟨[.int .i64 0, .int .i64 0, .int .i64 0], 1, true⟩)) (H.push ⟨[.int .i64 0, .int .i64 0, .int .i64 0], 1, true⟩) ((H.push ⟨[.int .i64 0, .int .i64 0, .int .i64 0], 1, true⟩).push ⟨[.int .i64 0, .int .i64 0, .int .i64 0], 1, true⟩) := push_keep
  have g4 : ((H.push ⟨[.int .i64 0, .int .i64 0, .int .i64 0], 1, true⟩).push ⟨[.int .i64 0, .int .i64 0, .int .i64 0], 1, true⟩).get H.n = some ⟨[.int .i64 0, .int .i64 0, .int .i64 0], 1, true⟩ := by
    rw [push_lt (by simp [push_n])]; exact push_self
  have st5 : stV 3 (ptr (H.push ⟨[.int .i64 0, .int .i64 0, .int .i64 0], 1, true⟩).n 0) (.agg #[.int .i64 0, .int .i64 0, .int .i64 0]) ((H.push ⟨[.int .i64 0, .int .i64 0, .int .i64 0], 1, true⟩).push ⟨[.int .i64 0, .int .i64 0, .int .i64 0], 1, true⟩) = some (undef, (H.push ⟨[.int .i64 0, .int .i64 0, .int .i64 0], 1, true⟩).push ⟨[.int .i64 0, .int .i64 0, .int .i64 0], 1, true⟩) :=
    stA_push (ds := [.int .i64 0, .int .i64 0, .int .i64 0]) rfl rfl rfl
  have l5 : Eng.ldA 3 (ptr (H.push ⟨[.int .i64 0, .int .i64 0, .int .i64 0], 1, true⟩).n 0) ((H.push ⟨[.int .i64 0, .int .i64 0, .int .i64 0], 1, true⟩).push ⟨[.int .i64 0, .int .i64 0, .int .i64 0], 1, true⟩) = some (.agg #[.int .i64 0, .int .i64 0, .int .i64 0], (H.push ⟨[.int .i64 0, .int .i64 0, .int .i64 0], 1, true⟩).push ⟨[.int .i64 0, .int .i64 0, .int .i64 0], 1, true⟩) := ldA_push rfl
  have hs2 : SlU R ((H.push ⟨[.int .i64 0, .int .i64 0, .int .i64 0], 1, true⟩).push ⟨[.int .i64 0, .int .i64 0, .int .i64 0], 1, true⟩) b v := Sl.keep (Sl.keep hs (k1.of_all hR)) (k2.of_all (hR.mono k1.1))
  generalize hH1 : (H.push ⟨[.int .i64 0, .int .i64 0, .int .i64 0], 1, true⟩) = H1 at *
  generalize hH2 : (H1.push ⟨[.int .i64 0, .int .i64 0, .int .i64 0], 1, true⟩) = H2 at *
  have K : Keep (all H) H (H2.upd H.n (some ⟨TOK (tokAt a (c :: r)), 1, true⟩)) := (k1.tr k2).trans (Keep.upd fun h => Nat.lt_irrefl _ h)
  refine ⟨_, ?_, K⟩
  obtain ⟨p, p1, p2⟩ := hs2.at hba
  obtain ⟨z1, z2⟩ := st3 (x := 0) (y := 0) (z := 0) g4 rfl
  refine Ev.enter (fun n => f38_eq rfl n _ _ _) ?_
  simp only [f38, ruA, ruB, ruC, ruE, ruD, lenStr, Int.reduceBEq, Int.reduceBNe, new3, hH1, hH2, bld0z, st5, p1, p2]
  by_cases s1 : wSign c = true
  · have et : tokAt a (c :: r) = ⟨4, a, a + 1⟩ := by simp [tokAt, wordN, s1]
    obtain ⟨w1, w2⟩ := st3 (x := 4) (y := (a : Int)) (z := ((a + 1 : Nat) : Int)) g4 rfl
    rw [et]
    have hup := idx_up (show a < 9223372036854775807 by omega)
    have s2 : c = 61 ∨ c = 59 ∨ c = 58 ∨ c = 124 := by simpa [wSign] using s1
    rcases s2 with rfl | rfl | rfl | rfl
    · simp only [ruA, ruB, ruC, ruE, ruD, lenStr, Int.reduceBEq, Int.reduceBNe, u8_lit 61 61 (n := 61) rfl, decide_true, hup, bld3, w1, w2, Option.map_some, resM1, one1]
      exact Ev.pure _
    · simp only [ruA, ruB, ruC, ruE, ruD, lenStr, Int.reduceBEq, Int.reduceBNe, u8_lit 59 61 (n := 61) rfl, u8_lit 59 59 (n := 59) rfl, decide_eq_false (show ¬ (59 : UInt8) = 61 by decide), decide_true, hup, bld3, w1, w2, Option.map_some, resM1, one1]
      exact Ev.pure _
    · simp only [ruA, ruB, ruC, ruE, ruD, lenStr, Int.reduceBEq, Int.reduceBNe, u8_lit 58 61 (n := 61) rfl, u8_lit 58 59 (n := 59) rfl, u8_lit 58 58 (n := 58) rfl, decide_eq_false (show ¬ (58 : UInt8) = 61 by decide), decide_eq_false (show ¬ (58 : UInt8) = 59 by decide), decide_true, hup, bld3, w1, w2, Option.map_some, resM1, one1]
      exact Ev.pure _
    · simp only [ruA, ruB, ruC, ruE, ruD, lenStr, Int.reduceBEq, Int.reduceBNe, u8_lit 124 61 (n := 61) rfl, u8_lit 124 59 (n := 59) rfl, u8_lit 124 58 (n := 58) rfl, u8_lit 124 124 (n := 124) rfl, decide_eq_false (show ¬ (124 : UInt8) = 61 by decide), decide_eq_false (show ¬ (124 : UInt8) = 59 by decide), decide_eq_false (show ¬ (124 : UInt8) = 58 by decide), decide_true, hup, bld3, w1, w2, Option.map_some, resM1, one1]
      exact Ev.pure _
  · have s1 : wSign c = false := by simpa using s1
    have n1 : c ≠ 61 := by rintro rfl; cases s1
    have n2 : c ≠ 59 := by rintro rfl; cases s1
    have n3 : c ≠ 58 := by rintro rfl; cases s1
    have n4 : c ≠ 124 := by rintro rfl; cases s1
    simp only [ruA, ruB, ruC, ruE, ruD, lenStr, Int.reduceBEq, Int.reduceBNe, u8_lit c 61 (n := 61) rfl, decide_eq_false n1, u8_lit c 59 (n := 59) rfl, decide_eq_false n2, u8_lit c 58 (n := 58) rfl, decide_eq_false n3, u8_lit c 124 (n := 124) rfl, decide_eq_false n4]
    by_cases h34 : c = 34
    · subst h34
      have E := rended_ok hs2 hba (by omega)
      rw [hda, if_neg (by decide)] at E
      simp only [ruA, ruB, ruC, ruE, ruD, lenStr, Int.reduceBEq, Int.reduceBNe, u8_lit 34 34 (n := 34) rfl, decide_true]
      refine Ev.callC E ?_
      cases he : endedN 34 34 r with
      | none =>
        have et : tokAt a (34 :: r) = ⟨0, 0, 0⟩ := by simp [tokAt, wordN, s1, he]
        rw [et]
        simp only [Option.map_none, placeI, eq_true (show (-1 : Int) < 0 by decide), ruA, ruB, ruC, ruE, ruD, lenStr, Int.reduceBEq, Int.reduceBNe, l5, z1, z2, Option.map_some, resM1, one1]
        exact Ev.pure _
      | some n =>
        have hn := (ended_some he).1
        have hbl : b.length = a + 1 + r.length := by omega
        have hup := idx_up (show a < 9223372036854775807 by omega)
        have hdn : IntKind.i64.wrap (((n + (a + 1 + 1) : Nat) : Int) - 1) = ((a + 1 + n : Nat) : Int) := by rw [wrap_i64 (by omega) (by omega)]; omega
        obtain ⟨u, u1, u2⟩ := hs2.part (k := .i64) (k' := .i64) (i := a + 1) (j := a + 1 + n) (by omega) (by omega)
        have et2 : (b.take (a + 1 + n)).drop (a + 1) = r.take n := by rw [List.drop_take, hda, Nat.add_sub_cancel_left]
        rw [et2] at u2
        simp only [Option.map_some, placeI, eq_false (show ¬ ((n + (a + 1 + 1) : Nat) : Int) < 0 by omega), ruA, ruB, ruC, ruE, ruD, lenStr, Int.reduceBEq, Int.reduceBNe, hup, hdn, u1, toStr_U u2]
        refine Ev.callC (path_rok (l := r.take n) H2 (by simp; omega)) ?_
        cases hp : isPathN (r.take n) with
        | false =>
          have et : tokAt a (34 :: r) = ⟨0, 0, 0⟩ := by simp [tokAt, wordN, s1, he, hp]
          rw [et]
          simp only [ruA, ruB, ruC, ruE, ruD, lenStr, Int.reduceBEq, Int.reduceBNe, l5, z1, z2, Option.map_some, resM1, one1]
          exact Ev.pure _
        | true =>
          have et : tokAt a (34 :: r) = ⟨2, a, n + (a + 1 + 1)⟩ := by simp [tokAt, wordN, s1, he, hp]; omega
          rw [et]
          obtain ⟨w1, w2⟩ := st3 (x := 2) (y := (a : Int)) (z := ((n + (a + 1 + 1) : Nat) : Int)) g4 rfl
          simp only [ruA, ruB, ruC, ruE, ruD, lenStr, Int.reduceBEq, Int.reduceBNe, bld3, w1, w2, Option.map_some, resM1, one1]
          exact Ev.pure _
    · simp only [ruA, ruB, ruC, ruE, ruD, lenStr, Int.reduceBEq, Int.reduceBNe, u8_lit c 34 (n := 34) rfl, decide_eq_false h34]
      by_cases h47 : c = 47
      · subst h47
        have E := rended_ok hs2 hba (by omega)
        rw [hda, if_pos rfl] at E
        simp only [ruA, ruB, ruC, ruE, ruD, lenStr, Int.reduceBEq, Int.reduceBNe, u8_lit 47 47 (n := 47) rfl, decide_true]
        refine Ev.callC E ?_
        cases he : endedN 47 92 r with
        | none =>
          have et : tokAt a (47 :: r) = ⟨0, 0, 0⟩ := by simp [tokAt, wordN, s1, he]
          rw [et]
          simp only [Option.map_none, placeI, eq_true (show (-1 : Int) < 0 by decide), ruA, ruB, ruC, ruE, ruD, lenStr, Int.reduceBEq, Int.reduceBNe, l5, z1, z2, Option.map_some, resM1, one1]
          exact Ev.pure _
        | some n =>
          have et : tokAt a (47 :: r) = ⟨3, a, n + (a + 1 + 1)⟩ := by simp [tokAt, wordN, s1, he]; omega
          rw [et]
          obtain ⟨w1, w2⟩ := st3 (x := 3) (y := (a : Int)) (z := ((n + (a + 1 + 1) : Nat) : Int)) g4 rfl
          simp only [Option.map_some, placeI, eq_false (show ¬ ((n + (a + 1 + 1) : Nat) : Int) < 0 by omega), ruA, ruB, ruC, ruE, ruD, lenStr, Int.reduceBEq, Int.reduceBNe, bld3, w1, w2, resM1, one1]
          exact Ev.pure _
      · simp only [ruA, ruB, ruC, ruE, ruD, lenStr, Int.reduceBEq, Int.reduceBNe, u8_lit c 47 (n := 47) rfl, decide_eq_false h47]
        refine Ev.callC (let_rok c H2) ?_
        cases hlt : wLet c with
        | false =>
          have et : tokAt a (c :: r) = ⟨0, 0, 0⟩ := by simp [tokAt, wordN, s1, h34, h47, hlt]
          rw [et]
          simp only [ruA, ruB, ruC, ruE, ruD, lenStr, Int.reduceBEq, Int.reduceBNe, l5, z1, z2, Option.map_some, resM1, one1]
          exact Ev.pure _
        | true =>
          simp only [ruA, ruB, ruC, ruE, ruD, lenStr, Int.reduceBEq, Int.reduceBNe]
          refine Ev.callC (dig_rok c H2) ?_
          cases hdg : wDig c with
          | true =>
            have et : tokAt a (c :: r) = ⟨0, 0, 0⟩ := by simp [tokAt, wordN, s1, h34, h47, hlt, hdg]
            rw [et]
            simp only [ruA, ruB, ruC, ruE, ruD, lenStr, Int.reduceBEq, Int.reduceBNe, l5, z1, z2, Option.map_some, resM1, one1]
            exact Ev.pure _
          | false =>
            simp only [ruA, ruB, ruC, ruE, ruD, lenStr, Int.reduceBEq, Int.reduceBNe]
            exact (rword_let hs2 hd ha hb g4 l5 s1 h34 h47 (by rw [hlt, hdg]; rfl) (lettersN (c :: r)) 0 (by omega)).loop
end Go.Eng
