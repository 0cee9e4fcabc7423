/- Is a text a path? -/
import Derived.Test.YtmfbebfpeimflaaDoorGB
import Derived.Laws.RangeString
set_option linter.unusedVariables false
set_option linter.unusedSimpArgs false
namespace Go.Eng
open Go Go.Proofs

/-! ### texts gone through -/
theorem rng_new {s : ByteArray} {H : Heap} : rngS (.string s) H = some (ptr H.n 0, H.push (obj (.iter s 0))) := nr _
theorem obAt_push {H : Heap} {o : Ob} : obAt (H.push (obj o)) H.n = some o := by
  unfold obAt
  rw [push_self]
  rfl
theorem nxt_some {s : ByteArray} {pos : Nat} {H : Heap} (h : pos < s.size) : nxtS (ptr H.n 0) (H.push (obj (.iter s pos))) = some (.tuple #[.bool true, .int .i64 pos, .int .i32 (Utf8.decode s pos).1], H.push (obj (.iter s (pos + (Utf8.decode s pos).2)))) := by
  simp only [nxtS, obAt_push, if_pos h, push_updE]
theorem nxt_end {s : ByteArray} {pos : Nat} {H : Heap} (h : ¬ pos < s.size) : nxtS (ptr H.n 0) (H.push (obj (.iter s pos))) = some (.tuple #[.bool false], H.push (obj (.iter s pos))) := by
  simp only [nxtS, obAt_push, if_neg h]
theorem extr10 {a : Value} {H : Heap} : extr 0 (.tuple #[a]) H = some (a, H) := nr _
theorem bs_get {l : List UInt8} {i : Nat} {c : UInt8} (h : l[i]? = some c) : ∃ hi : i < (bs l).size, (bs l)[i]'hi = c := by
  have hi : i < l.length := (List.getElem?_eq_some_iff.1 h).1
  refine ⟨by rw [bs_size]; exact hi, ?_⟩
  show (bs l).data[i] = c
  simp only [bs]
  simpa [List.getElem?_eq_getElem hi] using h
theorem dec_low {l : List UInt8} {i : Nat} {c : UInt8} (h : l[i]? = some c) (hc : c.toNat < 128) : Utf8.decode (bs l) i = (c.toNat, 1) := by
  obtain ⟨hi, e⟩ := bs_get h
  rw [decode_ascii (bs l) i hi (by rw [e]; exact hc), e]
theorem dec_high {l : List UInt8} {i : Nat} {c : UInt8} (h : l[i]? = some c) (hc : ¬ c.toNat < 128) : 128 ≤ (Utf8.decode (bs l) i).1 := by
  obtain ⟨hi, e⟩ := bs_get h
  have e0 : ((bs l).get! (i + 0)).toNat = c.toNat := by
    have : (bs l).get! (i + 0) = (bs l)[i]'hi := by
      show (bs l).get! i = _
      simp [ByteArray.get!, getElem!_pos, hi]
      rfl
    rw [this, e]
  unfold Utf8.decode
  simp only [e0]
  rw [if_neg (by omega)]
  split
  · split
    · simp only; omega
    · simp [Utf8.runeError]
  · split
    · split
      · rename_i hq
        simp only [Bool.and_eq_true, decide_eq_true_eq, ge_iff_le] at hq
        simp only; omega
      · simp [Utf8.runeError]
    · split
      · split
        · rename_i hq
          simp only [Bool.and_eq_true, decide_eq_true_eq, ge_iff_le] at hq
          simp only; omega
        · simp [Utf8.runeError]
      · simp [Utf8.runeError]
theorem byte_ge (n : Nat) (h : n < 128) (h' : True) : 128 ≤ (UInt8.ofNat (128 + n)).toNat := by
  simp only [UInt8.toNat_ofNat']
  omega
theorem enc_high {r : Int} (h : 128 ≤ r) : ∃ l y, Utf8.encode r = bs (l ++ [y]) ∧ 128 ≤ y.toNat ∧ 1 ≤ l.length ∧ l.length ≤ 3 := by
  have hc : ∃ c : Nat, 128 ≤ c ∧ (if Utf8.valid r then r.toNat else Utf8.runeError) = c := by
    refine ⟨_, ?_, rfl⟩
    split
    · omega
    · simp [Utf8.runeError]
  obtain ⟨c, h1, h2⟩ := hc
  unfold Utf8.encode
  simp only [h2]
  rw [if_neg (by omega)]
  split
  · exact ⟨[_], _, rfl, byte_ge _ (by omega) trivial, by simp, by simp⟩
  · split
    · exact ⟨[_, _], _, rfl, byte_ge _ (by omega) trivial, by simp, by simp⟩
    · exact ⟨[_, _, _], _, rfl, byte_ge _ (by omega) trivial, by simp, by simp⟩

/-! ### the place of a rune -/
theorem i32_lt {c : Nat} : ((c : Int) < 128) = (c < 128) := by apply propext; omega
theorem cv8_nat {c : UInt8} {H : Heap} : cvI .u8 (.int .i32 (c.toNat : Int)) H = some (.int .u8 (c.toNat : Int), H) := by
  have := c.toNat_lt
  rw [cvI_u8, Int.emod_eq_of_lt (by omega) (by omega)]
theorem idxr_low {l : List UInt8} {c : UInt8} (h : c.toNat < 128) (H : Heap) : Cl 83 [.string (bs l), .int .i32 (c.toNat : Int)] H (.int .i64 (Lib.indexByte l c)) H := by
  refine Ev.enter (fun n => f83_eq rfl n _ _ _) ?_
  simp only [f83, ruA, ruB, ruC, ruE, ruD, lenStr, Int.reduceBEq, Int.reduceBNe, eq_true (show (0 : Int) ≤ (c.toNat : Int) by omega), eq_true (show (c.toNat : Int) < 128 by omega), cv8_nat]
  refine Ev.callC (idxs57 l c H) ?_
  exact Ev.pure _
theorem idxr_loop {l : List UInt8} {H : Heap} (hl : ∀ c ∈ l, c.toNat < 128) : ∀ (k i : Nat), i + k = l.length →
    Ev (fun n m => f83_L0 real (AC n) n m (ptr H.n 0) (H.push (obj (.iter (bs l) i)))) (.int .i64 (-1), H.push (obj (.iter (bs l) l.length))) := by
  intro k
  induction k with
  | zero =>
    intro i hi
    obtain rfl : i = l.length := by omega
    refine Ev.step (fun n m => f83_L0.eq_2 _ _ _ _ _ _) ?_
    simp only [ruA, ruB, ruC, ruE, ruD, lenStr, Int.reduceBEq, Int.reduceBNe, nxt_end (show ¬ l.length < (bs l).size by rw [bs_size]; omega), extr10]
    exact Ev.pure _
  | succ k ih =>
    intro i hi
    obtain ⟨c, hc, hd⟩ := drop_at (l := l) (i := i) (by omega)
    have h128 := hl c (mem_at hc)
    refine Ev.step (fun n m => f83_L0.eq_2 _ _ _ _ _ _) ?_
    have e : ((c.toNat : Int) == 65533) = false := by simp; omega
    simp only [ruA, ruB, ruC, ruE, ruD, lenStr, Int.reduceBEq, Int.reduceBNe, nxt_some (show i < (bs l).size by rw [bs_size]; omega), dec_low hc h128, e]
    exact ih (i + 1) (by omega)
abbrev DOTS : List UInt8 := [46, 95, 45, 47]
theorem valid_ok (r : Int) (H : Heap) : ∃ b, Cl 86 [.int .i32 r] H (.bool b) H := by
  by_cases h1 : 0 ≤ r
  · by_cases h2 : r < 55296
    · refine ⟨true, Ev.enter (fun n => f86_eq rfl n _ _) ?_⟩
      simp only [f86, ruA, ruB, ruC, ruE, ruD, lenStr, Int.reduceBEq, Int.reduceBNe, h1, h2]
      exact Ev.pure _
    · by_cases h3 : 57343 < r
      · by_cases h4 : r ≤ 1114111
        · refine ⟨true, Ev.enter (fun n => f86_eq rfl n _ _) ?_⟩
          simp only [f86, ruA, ruB, ruC, ruE, ruD, lenStr, Int.reduceBEq, Int.reduceBNe, h1, h2, h3, h4]
          exact Ev.pure _
        · refine ⟨false, Ev.enter (fun n => f86_eq rfl n _ _) ?_⟩
          simp only [f86, ruA, ruB, ruC, ruE, ruD, lenStr, Int.reduceBEq, Int.reduceBNe, h1, h2, h3, h4]
          exact Ev.pure _
      · refine ⟨false, Ev.enter (fun n => f86_eq rfl n _ _) ?_⟩
        simp only [f86, ruA, ruB, ruC, ruE, ruD, lenStr, Int.reduceBEq, Int.reduceBNe, h1, h2, h3]
        exact Ev.pure _
  · have h3 : ¬ 57343 < r := by omega
    refine ⟨false, Ev.enter (fun n => f86_eq rfl n _ _) ?_⟩
    simp only [f86, ruA, ruB, ruC, ruE, ruD, lenStr, Int.reduceBEq, Int.reduceBNe, h1, h3]
    exact Ev.pure _
theorem push_keepO {H : Heap} {o : Ob} : Keep (all H) H (H.push (obj o)) := Keep.push (Rb.all H)
theorem idxr_high {r : Nat} (h : 128 ≤ r) (H : Heap) : ∃ H', Cl 83 [.string (bs DOTS), .int .i32 (r : Int)] H (.int .i64 (-1)) H' ∧ Keep (all H) H H' := by
  have g1 : ¬ (r : Int) < 128 := by omega
  by_cases he : r = 65533
  · subst he
    refine ⟨H.push (obj (.iter (bs DOTS) DOTS.length)), ?_, push_keepO⟩
    refine Ev.enter (fun n => f83_eq rfl n _ _ _) ?_
    simp only [f83, ruA, ruB, ruC, ruE, ruD, lenStr, Int.reduceBEq, Int.reduceBNe, eq_true (show (0 : Int) ≤ ((65533 : Nat) : Int) by omega), eq_false g1, show (((65533 : Nat) : Int) == 65533) = true from rfl, rng_new]
    exact (idxr_loop (l := DOTS) (by decide) 4 0 rfl).loop
  · have e : ((r : Int) == 65533) = false := by simp; omega
    obtain ⟨b, hb⟩ := valid_ok (r : Int) H
    refine ⟨H, ?_, Keep.refl _ _⟩
    refine Ev.enter (fun n => f83_eq rfl n _ _ _) ?_
    simp only [f83, ruA, ruB, ruC, ruE, ruD, lenStr, Int.reduceBEq, Int.reduceBNe, eq_true (show (0 : Int) ≤ (r : Int) by omega), eq_false g1, e]
    refine Ev.callC hb ?_
    cases b with
    | false =>
      simp only [ruA, ruB, ruC, ruE, ruD, lenStr, Int.reduceBEq, Int.reduceBNe]
      exact Ev.pure _
    | true =>
      obtain ⟨l, y, h1, h2, h3, h4⟩ := enc_high (r := (r : Int)) (by omega)
      have hsz : (bs (l ++ [y])).size = l.length + 1 := by rw [bs_size]; simp
      have hw : IntKind.i64.wrap (((l.length + 1 : Nat) : Int) - 1) = (l.length : Int) := by rw [wrap_i64 (by omega) (by omega)]; omega
      have hy : (l ++ [y])[l.length]? = some y := by simp
      obtain ⟨d, hd⟩ : ∃ d, DOTS[l.length]? = some d := ⟨_, List.getElem?_eq_getElem (by simp; omega)⟩
      have hd128 : d.toNat < 128 := by
        have : ∀ c ∈ DOTS, c.toNat < 128 := by decide
        exact this d (mem_at hd)
      have hne : ((d.toNat : Int) != (y.toNat : Int)) = true := by simp; omega
      have hsl : slcStr (.string (bs DOTS)) (some (.int .i64 ((l.length + 1 : Nat) : Int))) none = some (.string (bs (DOTS.drop (l.length + 1)))) := bs_from (by simp; omega)
      have hI := idxs57 (DOTS.drop (l.length + 1)) y H
      have hm1 : Lib.indexByte (DOTS.drop (l.length + 1)) y < 0 := by
        have := idx_mem (l := DOTS.drop (l.length + 1)) (c := y)
        have hn : y ∉ DOTS.drop (l.length + 1) := fun hm => by
          have : ∀ c ∈ DOTS, c.toNat < 128 := by decide
          have := this y (List.mem_of_mem_drop hm)
          omega
        rw [decide_eq_false hn, decide_eq_false_iff_not] at this
        omega
      have hcv : cvR (.int .i32 (r : Int)) H = some (.string (bs (l ++ [y])), H) := by simp only [cvR, h1]
      simp only [ruA, ruB, ruC, ruE, ruD, lenStr, Int.reduceBEq, Int.reduceBNe, hcv, hsz, hw]
      refine Ev.congr (fun n m => rfl) (Ev.loop (R := fun n m => f83_L1 real (AC n) n m (.string (bs DOTS)) (.string (bs (l ++ [y]))) (.int .i64 (l.length : Int)) (.int .i64 (l.length : Int)) H) ?_)
      refine Ev.step (fun n m => f83_L1.eq_2 _ _ _ _ _ _ _ _ _) ?_
      have h4' : ((l.length : Int) < ((bs DOTS).size : Int)) = True := by
        rw [bs_size]; simp; omega
      simp only [ruA, ruB, ruC, ruE, ruD, lenStr, Int.reduceBEq, Int.reduceBNe, h4', bs_idx hd, bs_idx hy, hne, idx_up (show l.length < 9223372036854775807 by omega), hsl]
      refine Ev.callC hI ?_
      simp only [ruA, ruB, ruC, ruE, ruD, lenStr, Int.reduceBEq, Int.reduceBNe, eq_true hm1]
      exact Ev.pure _

/-! ### a path's bytes -/
theorem mem_dots (c : UInt8) : decide (c ∈ DOTS) = decide (c = 46 ∨ c = 95 ∨ c = 45 ∨ c = 47) := by simp [DOTS]
theorem crune_low {c : UInt8} (h : c.toNat < 128) (H : Heap) : Cl 75 [.string (bs DOTS), .int .i32 (c.toNat : Int)] H (.bool (decide (c = 46 ∨ c = 95 ∨ c = 45 ∨ c = 47))) H := by
  refine Ev.enter (fun n => f75_eq rfl n _ _ _) ?_
  simp only [f75, ruA, ruB, ruC, ruE, ruD, lenStr, Int.reduceBEq, Int.reduceBNe]
  refine Ev.callC (idxr_low h H) ?_
  simp only [ruA, ruB, ruC, ruE, ruD, lenStr, Int.reduceBEq, Int.reduceBNe, idx_mem, mem_dots]
  exact Ev.pure _
theorem crune_high {r : Nat} (h : 128 ≤ r) (H : Heap) : ∃ H', Cl 75 [.string (bs DOTS), .int .i32 (r : Int)] H (.bool false) H' ∧ Keep (all H) H H' := by
  obtain ⟨H', h1, h2⟩ := idxr_high h H
  refine ⟨H', ?_, h2⟩
  refine Ev.enter (fun n => f75_eq rfl n _ _ _) ?_
  simp only [f75, ruA, ruB, ruC, ruE, ruD, lenStr, Int.reduceBEq, Int.reduceBNe]
  refine Ev.callC h1 ?_
  simp only [ruA, ruB, ruC, ruE, ruD, lenStr, Int.reduceBEq, Int.reduceBNe, eq_false (show ¬ (-1 : Int) ≥ 0 by decide)]
  exact Ev.pure _
theorem clos_low {c : UInt8} (h : c.toNat < 128) (H : Heap) : Cl 74 [.int .i32 (c.toNat : Int)] H (.bool (!pathC c)) H := by
  refine Ev.enter (fun n => f74_eq rfl n _ _) ?_
  have D := crune_low h H
  by_cases h1 : 97 ≤ c.toNat ∧ c.toNat ≤ 122
  · simp only [f74, ruA, ruB, ruC, ruE, ruD, lenStr, Int.reduceBEq, Int.reduceBNe, eq_true (show (97 : Int) ≤ (c.toNat : Int) by omega), eq_true (show (c.toNat : Int) ≤ 122 by omega), pathC, h1.1, h1.2, Bool.and_self, Bool.true_or]
    exact Ev.pure _
  · have e1 : (decide (97 ≤ c.toNat) && decide (c.toNat ≤ 122)) = false := by simpa using h1
    by_cases h2 : 48 ≤ c.toNat ∧ c.toNat ≤ 57
    · have g1 : ¬ (97 : Int) ≤ (c.toNat : Int) := by omega
      simp only [f74, ruA, ruB, ruC, ruE, ruD, lenStr, Int.reduceBEq, Int.reduceBNe, eq_false g1, eq_true (show (48 : Int) ≤ (c.toNat : Int) by omega), eq_true (show (c.toNat : Int) ≤ 57 by omega), pathC, wDig, e1, h2.1, h2.2, Bool.and_self, Bool.true_or, Bool.or_true]
      exact Ev.pure _
    · have e2 : wDig c = false := by simp only [wDig]; simpa using h2
      have e3 : pathC c = decide (c = 46 ∨ c = 95 ∨ c = 45 ∨ c = 47) := by simp only [pathC, e1, e2, Bool.false_or]
      rw [e3]
      by_cases h3 : 97 ≤ c.toNat
      · have q1 : ¬ (c.toNat : Int) ≤ 122 := by omega
        have q2 : ¬ (c.toNat : Int) ≤ 57 := by omega
        simp only [f74, ruA, ruB, ruC, ruE, ruD, lenStr, Int.reduceBEq, Int.reduceBNe, eq_true (show (97 : Int) ≤ (c.toNat : Int) by omega), eq_false q1, eq_true (show (48 : Int) ≤ (c.toNat : Int) by omega), eq_false q2]
        refine Ev.callC D ?_
        simp only [ruA, ruB, ruC, ruE, ruD, lenStr, Int.reduceBEq, Int.reduceBNe]
        exact Ev.pure _
      · by_cases h4 : 48 ≤ c.toNat
        · have q2 : ¬ (c.toNat : Int) ≤ 57 := by omega
          simp only [f74, ruA, ruB, ruC, ruE, ruD, lenStr, Int.reduceBEq, Int.reduceBNe, eq_false (show ¬ (97 : Int) ≤ (c.toNat : Int) by omega), eq_true (show (48 : Int) ≤ (c.toNat : Int) by omega), eq_false q2]
          refine Ev.callC D ?_
          simp only [ruA, ruB, ruC, ruE, ruD, lenStr, Int.reduceBEq, Int.reduceBNe]
          exact Ev.pure _
        · simp only [f74, ruA, ruB, ruC, ruE, ruD, lenStr, Int.reduceBEq, Int.reduceBNe, eq_false (show ¬ (97 : Int) ≤ (c.toNat : Int) by omega), eq_false (show ¬ (48 : Int) ≤ (c.toNat : Int) by omega)]
          refine Ev.callC D ?_
          simp only [ruA, ruB, ruC, ruE, ruD, lenStr, Int.reduceBEq, Int.reduceBNe]
          exact Ev.pure _
theorem clos_high {r : Nat} (h : 128 ≤ r) (H : Heap) : ∃ H', Cl 74 [.int .i32 (r : Int)] H (.bool true) H' ∧ Keep (all H) H H' := by
  obtain ⟨H', D, h2⟩ := crune_high h H
  refine ⟨H', ?_, h2⟩
  refine Ev.enter (fun n => f74_eq rfl n _ _) ?_
  have q1 : ¬ (r : Int) ≤ 122 := by omega
  have q2 : ¬ (r : Int) ≤ 57 := by omega
  simp only [f74, ruA, ruB, ruC, ruE, ruD, lenStr, Int.reduceBEq, Int.reduceBNe, eq_true (show (97 : Int) ≤ (r : Int) by omega), eq_false q1, eq_true (show (48 : Int) ≤ (r : Int) by omega), eq_false q2]
  refine Ev.callC D ?_
  simp only [ruA, ruB, ruC, ruE, ruD, lenStr, Int.reduceBEq, Int.reduceBNe]
  exact Ev.pure _
theorem callV0' {C : CallF} {g : FuncId} {w : Value} {H : Heap} : callV C (.func (.func g) #[] #[]) [w] H = C g [w] H := nr _
theorem bool4 : Tryd.prog.underlying 4 = some .bool := Tryd.underlying4
theorem pathC_low {c : UInt8} (h : ¬ c.toNat < 128) : pathC c = false := by
  simp only [pathC, wDig]
  have h1 : ¬ c.toNat ≤ 122 := by omega
  have h2 : ¬ c.toNat ≤ 57 := by omega
  have h3 : ¬ (c = 46 ∨ c = 95 ∨ c = 45 ∨ c = 47) := by
    rintro (rfl | rfl | rfl | rfl) <;> exact h (by decide)
  simp [h1, h2, h3]
theorem ifunc_loop {l : List UInt8} {H : Heap} (hl : l.length < 9223372036854775807) : ∀ (k i : Nat), i + k = l.length →
    ∃ v H', Ev (fun n m => f85_L0 real (AC n) n m (.func (.func 74) #[] #[]) (.bool true) (ptr H.n 0) (H.push (obj (.iter (bs l) i)))) (.int .i64 v, H') ∧ Keep (all H) H H' ∧ decide (v ≥ 0) = !((l.drop i).all pathC) := by
  intro k
  induction k with
  | zero =>
    intro i hi
    obtain rfl : i = l.length := by omega
    refine ⟨-1, H.push (obj (.iter (bs l) l.length)), ?_, push_keepO, by simp⟩
    refine Ev.step (fun n m => f85_L0.eq_2 _ _ _ _ _ _ _ _) ?_
    simp only [ruA, ruB, ruC, ruE, ruD, lenStr, Int.reduceBEq, Int.reduceBNe, nxt_end (show ¬ l.length < (bs l).size by rw [bs_size]; omega), extr10]
    exact Ev.pure _
  | succ k ih =>
    intro i hi
    obtain ⟨c, hc, hd⟩ := drop_at (l := l) (i := i) (by omega)
    have hsz : i < (bs l).size := by rw [bs_size]; omega
    by_cases h128 : c.toNat < 128
    · cases hp : pathC c with
      | true =>
        obtain ⟨v, H', g1, g2, g3⟩ := ih (i + 1) (by omega)
        refine ⟨v, H', ?_, g2, by rw [g3, hd]; simp [hp]⟩
        refine Ev.step (fun n m => f85_L0.eq_2 _ _ _ _ _ _ _ _) ?_
        simp only [ruA, ruB, ruC, ruE, ruD, lenStr, Int.reduceBEq, Int.reduceBNe, nxt_some hsz, dec_low hc h128, callV0']
        refine Ev.callC (clos_low h128 _) ?_
        simp only [ruA, ruB, ruC, ruE, ruD, lenStr, Int.reduceBEq, Int.reduceBNe, hp, b_beql bool4]
        exact g1
      | false =>
        refine ⟨(i : Int), H.push (obj (.iter (bs l) (i + 1))), ?_, push_keepO, by rw [hd]; simp [hp]⟩
        refine Ev.step (fun n m => f85_L0.eq_2 _ _ _ _ _ _ _ _) ?_
        simp only [ruA, ruB, ruC, ruE, ruD, lenStr, Int.reduceBEq, Int.reduceBNe, nxt_some hsz, dec_low hc h128, callV0']
        refine Ev.callC (clos_low h128 _) ?_
        simp only [ruA, ruB, ruC, ruE, ruD, lenStr, Int.reduceBEq, Int.reduceBNe, hp, b_beql bool4]
        exact Ev.pure _
    · obtain ⟨H', g1, g2⟩ := clos_high (dec_high hc h128) (H.push (obj (.iter (bs l) (i + (Utf8.decode (bs l) i).2))))
      refine ⟨(i : Int), H', ?_, push_keepO.tr g2, by rw [hd]; simp [pathC_low h128]⟩
      refine Ev.step (fun n m => f85_L0.eq_2 _ _ _ _ _ _ _ _) ?_
      simp only [ruA, ruB, ruC, ruE, ruD, lenStr, Int.reduceBEq, Int.reduceBNe, nxt_some hsz, callV0']
      refine Ev.callC g1 ?_
      simp only [ruA, ruB, ruC, ruE, ruD, lenStr, Int.reduceBEq, Int.reduceBNe, b_beql bool4]
      exact Ev.pure _
theorem path_ok {l : List UInt8} (H : Heap) (hl : l.length < 9223372036854775807) : ∃ H', Cl 50 [.string (bs l)] H (.bool (isPathN l)) H' ∧ Keep (all H) H H' := by
  obtain ⟨v, H', g1, g2, g3⟩ := ifunc_loop (H := H) hl l.length 0 (by omega)
  rw [List.drop_zero] at g3
  have c77 : Cl 85 [.string (bs l), .func (.func 74) #[] #[], .bool true] H (.int .i64 v) H' := by
    refine Ev.enter (fun n => f85_eq rfl n _ _ _ _) ?_
    simp only [f85, ruA, ruB, ruC, ruE, ruD, lenStr, Int.reduceBEq, Int.reduceBNe, rng_new]
    exact g1.loop
  have c61 : Cl 82 [.string (bs l), .func (.func 74) #[] #[]] H (.int .i64 v) H' := by
    refine Ev.enter (fun n => f82_eq rfl n _ _ _) ?_
    simp only [f82, ruA, ruB, ruC, ruE, ruD, lenStr, Int.reduceBEq, Int.reduceBNe]
    refine Ev.callC c77 ?_
    exact Ev.pure _
  have c42 : Cl 73 [.string (bs l), .func (.func 74) #[] #[]] H (.bool (!(l.all pathC))) H' := by
    refine Ev.enter (fun n => f73_eq rfl n _ _ _) ?_
    simp only [f73, ruA, ruB, ruC, ruE, ruD, lenStr, Int.reduceBEq, Int.reduceBNe]
    refine Ev.callC c61 ?_
    simp only [ruA, ruB, ruC, ruE, ruD, lenStr, Int.reduceBEq, Int.reduceBNe, g3]
    exact Ev.pure _
  refine ⟨H', ?_, g2⟩
  refine Ev.enter (fun n => f50_eq rfl n _ _) ?_
  simp only [f50, ruA, ruB, ruC, ruE, ruD, lenStr, Int.reduceBEq, Int.reduceBNe]
  refine Ev.callC c42 ?_
  unfold isPathN
  by_cases h1 : 1 ≤ l.length
  · by_cases h2 : l.length ≤ 32
    · simp only [ruA, ruB, ruC, ruE, ruD, lenStr, Int.reduceBEq, Int.reduceBNe, bs_size, eq_true (show (1 : Int) ≤ (l.length : Int) by omega), eq_true (show (l.length : Int) ≤ 32 by omega), h1, h2, Bool.not_not, Bool.true_and]
      exact Ev.pure _
    · simp only [ruA, ruB, ruC, ruE, ruD, lenStr, Int.reduceBEq, Int.reduceBNe, bs_size, eq_true (show (1 : Int) ≤ (l.length : Int) by omega), eq_false (show ¬ (l.length : Int) ≤ 32 by omega), h1, h2, Bool.and_false, Bool.false_and]
      exact Ev.pure _
  · simp only [ruA, ruB, ruC, ruE, ruD, lenStr, Int.reduceBEq, Int.reduceBNe, bs_size, eq_false (show ¬ (1 : Int) ≤ (l.length : Int) by omega), h1, Bool.false_and]
    exact Ev.pure _
end Go.Eng
