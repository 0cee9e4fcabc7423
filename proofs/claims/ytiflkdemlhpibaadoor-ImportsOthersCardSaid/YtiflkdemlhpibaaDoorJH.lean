/- The first of the files, the first of what they import; the law. -/
import Derived.Test.YtiflkdemlhpibaaDoorJG
set_option linter.unusedVariables false
set_option linter.unusedSimpArgs false
set_option linter.unusedSectionVars false
set_option maxRecDepth 100000
namespace Go.Eng
open Go Go.Proofs

def cut1 (e : En) : En := ⟨e.P, e.I.take 40⟩
def cutE (l : List En) : List En := l.map cut1
theorem acall_ext {P : Program} {gl : Bool} {E : Ext} {f : FuncId} {fn : Func} {g : List Value → Heap → Option (Value × Heap)} (hf : P.funcs[f]? = some fn) (hn : (fn.name == "runtime.NumGoroutine") = false) (hb : fn.body.isSome = true) (h : E f = some g) (n : Nat) (args : List Value) (H : Heap) : acall P gl E (n + 1) f args H = g args H := by
  obtain ⟨c, hc⟩ := Option.isSome_iff_exists.1 hb
  unfold acall
  rw [hf]
  simp only [hn, hc, h]
theorem take_up {α : Type} {l : List α} {i : Nat} {x : α} (h : l[i]? = some x) : l.take (i + 1) = l.take i ++ [x] := by rw [List.take_add_one, h]; rfl
theorem cut5_loop {H0 : Heap} {vf : Value} {l : List En} (hf : Sli (all H0) H0 l vf) : ∀ (k i : Nat) (H : Heap) (L : Nat → Prop) (v : Value), i + k = min l.length 60 → Keep (all H0) H0 H → AccR H0 H L v (cutE (l.take i)) → (∀ b, blkOf v = some b → L b) → (∀ b, L b → b < H.n ∧ H0.n ≤ b) →
    ∃ H' v', Ev (fun n m => f25_L0 real (AC n) n m vf v (.int .i64 (i : Int)) H) (v', H') ∧ Keep (all H0) H0 H' ∧ Sli (all H') H' (cutE (l.take 60)) v' := by
  have hm : mostBytes = 140737488355328 := rfl
  intro k
  induction k with
  | zero =>
    intro i H L v hi hK hA hv hL
    have e : l.take 60 = l.take i := by
      by_cases h : l.length ≤ 60
      · rw [List.take_of_length_le h, List.take_of_length_le (by omega)]
      · rw [show i = 60 by omega]
    obtain ⟨cs, h1, h2⟩ := hA
    refine ⟨H, v, ?_, hK, by rw [e]; exact ⟨cs, h1.sl, h2.mono fun b hb => hb.1⟩⟩
    refine Ev.step (fun n m => f25_L0.eq_2 _ _ _ _ _ _ _ _) ?_
    by_cases h : i < l.length
    · have e60 : decide ((i : Int) < 60) = false := by simp; omega
      simp only [ruA, ruB, ruC, ruE, ruD, lenStr, Int.reduceBEq, Int.reduceBNe, hf.lenS, idx_lt h, e60]
      exact Ev.pure _
    · simp only [ruA, ruB, ruC, ruE, ruD, lenStr, Int.reduceBEq, Int.reduceBNe, hf.lenS, idx_ge (show l.length ≤ i by omega)]
      exact Ev.pure _
  | succ k ih =>
    intro i H L v hi hK hA hv hL
    obtain ⟨e, he⟩ : ∃ e, l[i]? = some e := ⟨_, List.getElem?_eq_getElem (by omega)⟩
    obtain ⟨b, o, w, a1, a4, a3⟩ := en_at0 hf he
    have e60 : decide ((i : Int) < 60) = true := by simp; omega
    have m40 : ∀ H, minV (.int .i64 (e.I.length : Int)) (.int .i64 40) H = some (.int .i64 ((min e.I.length 40 : Nat) : Int), H) := fun H => minV_nat (b := 40)
    obtain ⟨e1, e2, e3, e4, e5⟩ := el_box (H := H) (a := .string (bs e.P)) (b := .slice none 0 0) (u := .string ⟨#[]⟩) (v := .slice none 0 0) rfl rfl rfl rfl
    have bl : bld [.string ⟨#[]⟩, .slice none 0 0] [(0, 1, .string (bs e.P))] H = some (.agg #[.string (bs e.P), .slice none 0 0], H) := bldRl
    generalize H.push ⟨[.string (bs e.P), .slice none 0 0], 1, true⟩ = H1 at *
    have K1 : Keep (all H0) H0 H1 := hK.trans (e3.mono fun q hq => Nat.lt_of_lt_of_le hq hK.1)
    obtain ⟨w1, s1, s2⟩ := (a4.keep K1).take (m := min e.I.length 40) (Nat.min_le_left _ _)
    have et : (STRL e.I).take (min e.I.length 40) = STRL (e.I.take 40) := by
      rw [← List.map_take]
      congr 1
      by_cases h : e.I.length ≤ 40
      · rw [Nat.min_eq_left h, List.take_length, List.take_of_length_le h]
      · rw [Nat.min_eq_right (by omega)]
    rw [et, show min e.I.length 40 = (e.I.take 40).length by rw [List.length_take, Nat.min_comm]] at s2
    obtain ⟨w2, H2, t1, t2, t3⟩ := texts_new s2 (by rw [List.length_take]; omega)
    have gB : H2.get H.n = some ⟨[.string (bs e.P), .slice none 0 0], 1, true⟩ := by rw [t3.2 _ (by show H.n < H1.n; omega)]; exact e4
    have c3 := stV1_box (k := 1) (w := w2) gB (by simp) t2.oneC.2 t2.oneC.1
    have n2 : H1.n ≤ H2.n := t3.1
    obtain ⟨H3, hH3⟩ : ∃ H3, H3 = H2.upd H.n (some ⟨[.string (bs e.P), w2], 1, true⟩) := ⟨_, rfl⟩
    have c3 : stV 1 (ptr H.n 1) w2 H2 = some (undef, H3) := by rw [hH3]; exact c3
    have g3 : H3.get H.n = some ⟨[.string (bs e.P), w2], 1, true⟩ := by rw [hH3]; exact upd_self
    have n3 : H3.n = H2.n := by rw [hH3]; rfl
    have k3 : ∀ q, q ≠ H.n → H3.get q = H2.get q := fun q hq => by rw [hH3]; exact upd_ne hq
    have KH : Keep (all H) H H3 := ⟨by omega, fun q hq => by
      have hq : q < H.n := hq
      rw [k3 q (by omega), t3.2 q (by show q < H1.n; omega), e3.2 q hq]⟩
    have K3 : Keep (all H0) H0 H3 := hK.trans (KH.mono fun q hq => Nat.lt_of_lt_of_le hq hK.1)
    have l1 : ldC (ptr H.n 1) H1 = some (.slice none 0 0, H1) := own_ld e4 rfl
    have c5 : Eng.ldA 2 (ptr H.n 0) H3 = some (.agg #[.string (bs e.P), w2], H3) := ld2 g3
    have c6 := bldR (H := H3) (s := bs e.P) t2.oneC.1 t2.oneC.2
    have hA3 : AccR H0 H3 L v (cutE (l.take i)) := hA.move (L' := L) (KH.mono fun q hq => hq.1) (fun q hq => KH.2 q (hL q (hv q hq)).1) fun q hq => ⟨Nat.lt_of_lt_of_le hq.1 KH.1, hq.2⟩
    have sl2 : Sl (Stay H3 L) H3 1 w2 (e.I.take 40).length (STRL (e.I.take 40)) := by
      have x : Acc (all H1) H3 1 w2 (e.I.take 40).length (STRL (e.I.take 40)) := by
        rcases t2 with h | ⟨q, h1, h2, h3, h4, h5⟩
        · exact .inl h
        · refine .inr ⟨q, h1, h2, by omega, ?_, h5⟩
          have : ¬ q < H1.n := h2
          rw [k3 q (by omega)]; exact h4
      exact x.read fun q h1 h2 => ⟨h2, fun hq => by
        have := (hL q hq).1
        have : ¬ q < H1.n := h1
        omega⟩
    have hx : Rp.rep (Stay H3 L) H3 (cut1 e) [.string (bs e.P), w2] := rep_en.2 ⟨w2, rfl, sl2⟩
    have hlen : (cutE (l.take i)).length = i := by simp [cutE]; omega
    obtain ⟨v', H4, d1, d2, d3, d4⟩ := hA3.add (by_ := 40) K3.1 hx (by rw [hlen]; omega) hv
    have d1 : Eng.app 2 40 v (.slice (some ⟨H3.n, 0, none⟩) 1 1) (H3.push ⟨[.string (bs e.P), w2], 2, true⟩) = some (v', H4) := d1
    have ec : cutE (l.take i) ++ [cut1 e] = cutE (l.take (i + 1)) := by rw [take_up he]; simp [cutE]
    rw [ec] at d2
    have K4 : Keep (all H0) H0 H4 := K3.trans (d3.mono fun q hq => ⟨Nat.lt_of_lt_of_le hq K3.1, fun hb => by
      have := (hL q (hv q hb)).2
      have : q < H0.n := hq
      omega⟩)
    obtain ⟨H', r, r1, r2, r3⟩ := ih (i + 1) H4 _ v' (by omega) K4 d2 (fun q hq => .inr hq) (fun q hq => by
      rcases hq with hq | hq
      · have := hL q hq
        have := d3.1
        exact ⟨by omega, by omega⟩
      · have := d2.at hq
        exact ⟨this.2, this.1⟩)
    refine ⟨H', r, ?_, r2, r3⟩
    refine Ev.step (fun n m => f25_L0.eq_2 _ _ _ _ _ _ _ _) ?_
    simp only [ruA, ruB, ruC, ruE, ruD, lenStr, Int.reduceBEq, Int.reduceBNe, hf.lenS, idx_lt (show i < l.length by omega), e60, a1, (a3 H hK).1, Nat.add_zero, bl, e1, e2, l1, (a3 H1 K1).2, a4.lenS, m40, s1, t1, c3, c5, c6, d1, idx_up (show i < 9223372036854775807 by omega)]
    exact r1
theorem cut5_ok {H0 : Heap} {vf : Value} {l : List En} (hf : Sli (all H0) H0 l vf) : ∃ H' v, Cl 25 [vf] H0 v H' ∧ Keep (all H0) H0 H' ∧ Sli (all H') H' (cutE (l.take 60)) v := by
  obtain ⟨H', v, a, b, c⟩ := cut5_loop hf (min l.length 60) 0 H0 (fun _ => False) nilS (by omega) (Keep.refl _ _) (by rw [List.take_zero]; exact AccR.nil) (fun b hb => by simp [blkOf] at hb) (fun b hb => hb.elim)
  have a := a.loop
  refine ⟨H', v, ?_, b, c⟩
  refine Ev.enter (fun n => f25_eq rfl n _ _) ?_
  simp only [f25, ruA, ruB, ruC, ruE, ruD, lenStr, Int.reduceBEq, Int.reduceBNe]
  exact a
theorem cut8_loop {H0 : Heap} {vf : Value} {l : List En} (hf : Sli (all H0) H0 l vf) : ∀ (k i : Nat) (H : Heap) (L : Nat → Prop) (v : Value), i + k = min l.length 60 → Keep (all H0) H0 H → AccR H0 H L v (cutE (l.take i)) → (∀ b, blkOf v = some b → L b) → (∀ b, L b → b < H.n ∧ H0.n ≤ b) →
    ∃ H' v', Ev (fun n m => f27_L0 real (AC n) n m vf v (.int .i64 (i : Int)) H) (v', H') ∧ Keep (all H0) H0 H' ∧ Sli (all H') H' (cutE (l.take 60)) v' := by
  have hm : mostBytes = 140737488355328 := rfl
  intro k
  induction k with
  | zero =>
    intro i H L v hi hK hA hv hL
    have e : l.take 60 = l.take i := by
      by_cases h : l.length ≤ 60
      · rw [List.take_of_length_le h, List.take_of_length_le (by omega)]
      · rw [show i = 60 by omega]
    obtain ⟨cs, h1, h2⟩ := hA
    refine ⟨H, v, ?_, hK, by rw [e]; exact ⟨cs, h1.sl, h2.mono fun b hb => hb.1⟩⟩
    refine Ev.step (fun n m => f27_L0.eq_2 _ _ _ _ _ _ _ _) ?_
    by_cases h : i < l.length
    · have e60 : decide ((i : Int) < 60) = false := by simp; omega
      simp only [ruA, ruB, ruC, ruE, ruD, lenStr, Int.reduceBEq, Int.reduceBNe, hf.lenS, idx_lt h, e60]
      exact Ev.pure _
    · simp only [ruA, ruB, ruC, ruE, ruD, lenStr, Int.reduceBEq, Int.reduceBNe, hf.lenS, idx_ge (show l.length ≤ i by omega)]
      exact Ev.pure _
  | succ k ih =>
    intro i H L v hi hK hA hv hL
    obtain ⟨e, he⟩ : ∃ e, l[i]? = some e := ⟨_, List.getElem?_eq_getElem (by omega)⟩
    obtain ⟨b, o, w, a1, a4, a3⟩ := en_at0 hf he
    have e60 : decide ((i : Int) < 60) = true := by simp; omega
    have m40 : ∀ H, minV (.int .i64 (e.I.length : Int)) (.int .i64 40) H = some (.int .i64 ((min e.I.length 40 : Nat) : Int), H) := fun H => minV_nat (b := 40)
    obtain ⟨e1, e2, e3, e4, e5⟩ := el_box (H := H) (a := .string (bs e.P)) (b := .slice none 0 0) (u := .string ⟨#[]⟩) (v := .slice none 0 0) rfl rfl rfl rfl
    have bl : bld [.string ⟨#[]⟩, .slice none 0 0] [(0, 1, .string (bs e.P))] H = some (.agg #[.string (bs e.P), .slice none 0 0], H) := bldRl
    generalize H.push ⟨[.string (bs e.P), .slice none 0 0], 1, true⟩ = H1 at *
    have K1 : Keep (all H0) H0 H1 := hK.trans (e3.mono fun q hq => Nat.lt_of_lt_of_le hq hK.1)
    obtain ⟨w1, s1, s2⟩ := (a4.keep K1).take (m := min e.I.length 40) (Nat.min_le_left _ _)
    have et : (STRL e.I).take (min e.I.length 40) = STRL (e.I.take 40) := by
      rw [← List.map_take]
      congr 1
      by_cases h : e.I.length ≤ 40
      · rw [Nat.min_eq_left h, List.take_length, List.take_of_length_le h]
      · rw [Nat.min_eq_right (by omega)]
    rw [et, show min e.I.length 40 = (e.I.take 40).length by rw [List.length_take, Nat.min_comm]] at s2
    obtain ⟨w2, H2, t1, t2, t3⟩ := texts_new s2 (by rw [List.length_take]; omega)
    have gB : H2.get H.n = some ⟨[.string (bs e.P), .slice none 0 0], 1, true⟩ := by rw [t3.2 _ (by show H.n < H1.n; omega)]; exact e4
    have c3 := stV1_box (k := 1) (w := w2) gB (by simp) t2.oneC.2 t2.oneC.1
    have n2 : H1.n ≤ H2.n := t3.1
    obtain ⟨H3, hH3⟩ : ∃ H3, H3 = H2.upd H.n (some ⟨[.string (bs e.P), w2], 1, true⟩) := ⟨_, rfl⟩
    have c3 : stV 1 (ptr H.n 1) w2 H2 = some (undef, H3) := by rw [hH3]; exact c3
    have g3 : H3.get H.n = some ⟨[.string (bs e.P), w2], 1, true⟩ := by rw [hH3]; exact upd_self
    have n3 : H3.n = H2.n := by rw [hH3]; rfl
    have k3 : ∀ q, q ≠ H.n → H3.get q = H2.get q := fun q hq => by rw [hH3]; exact upd_ne hq
    have KH : Keep (all H) H H3 := ⟨by omega, fun q hq => by
      have hq : q < H.n := hq
      rw [k3 q (by omega), t3.2 q (by show q < H1.n; omega), e3.2 q hq]⟩
    have K3 : Keep (all H0) H0 H3 := hK.trans (KH.mono fun q hq => Nat.lt_of_lt_of_le hq hK.1)
    have l1 : ldC (ptr H.n 1) H1 = some (.slice none 0 0, H1) := own_ld e4 rfl
    have c5 : Eng.ldA 2 (ptr H.n 0) H3 = some (.agg #[.string (bs e.P), w2], H3) := ld2 g3
    have c6 := bldR (H := H3) (s := bs e.P) t2.oneC.1 t2.oneC.2
    have hA3 : AccR H0 H3 L v (cutE (l.take i)) := hA.move (L' := L) (KH.mono fun q hq => hq.1) (fun q hq => KH.2 q (hL q (hv q hq)).1) fun q hq => ⟨Nat.lt_of_lt_of_le hq.1 KH.1, hq.2⟩
    have sl2 : Sl (Stay H3 L) H3 1 w2 (e.I.take 40).length (STRL (e.I.take 40)) := by
      have x : Acc (all H1) H3 1 w2 (e.I.take 40).length (STRL (e.I.take 40)) := by
        rcases t2 with h | ⟨q, h1, h2, h3, h4, h5⟩
        · exact .inl h
        · refine .inr ⟨q, h1, h2, by omega, ?_, h5⟩
          have : ¬ q < H1.n := h2
          rw [k3 q (by omega)]; exact h4
      exact x.read fun q h1 h2 => ⟨h2, fun hq => by
        have := (hL q hq).1
        have : ¬ q < H1.n := h1
        omega⟩
    have hx : Rp.rep (Stay H3 L) H3 (cut1 e) [.string (bs e.P), w2] := rep_en.2 ⟨w2, rfl, sl2⟩
    have hlen : (cutE (l.take i)).length = i := by simp [cutE]; omega
    obtain ⟨v', H4, d1, d2, d3, d4⟩ := hA3.add (by_ := 40) K3.1 hx (by rw [hlen]; omega) hv
    have d1 : Eng.app 2 40 v (.slice (some ⟨H3.n, 0, none⟩) 1 1) (H3.push ⟨[.string (bs e.P), w2], 2, true⟩) = some (v', H4) := d1
    have ec : cutE (l.take i) ++ [cut1 e] = cutE (l.take (i + 1)) := by rw [take_up he]; simp [cutE]
    rw [ec] at d2
    have K4 : Keep (all H0) H0 H4 := K3.trans (d3.mono fun q hq => ⟨Nat.lt_of_lt_of_le hq K3.1, fun hb => by
      have := (hL q (hv q hb)).2
      have : q < H0.n := hq
      omega⟩)
    obtain ⟨H', r, r1, r2, r3⟩ := ih (i + 1) H4 _ v' (by omega) K4 d2 (fun q hq => .inr hq) (fun q hq => by
      rcases hq with hq | hq
      · have := hL q hq
        have := d3.1
        exact ⟨by omega, by omega⟩
      · have := d2.at hq
        exact ⟨this.2, this.1⟩)
    refine ⟨H', r, ?_, r2, r3⟩
    refine Ev.step (fun n m => f27_L0.eq_2 _ _ _ _ _ _ _ _) ?_
    simp only [ruA, ruB, ruC, ruE, ruD, lenStr, Int.reduceBEq, Int.reduceBNe, hf.lenS, idx_lt (show i < l.length by omega), e60, a1, (a3 H hK).1, Nat.add_zero, bl, e1, e2, l1, (a3 H1 K1).2, a4.lenS, m40, s1, t1, c3, c5, c6, d1, idx_up (show i < 9223372036854775807 by omega)]
    exact r1
theorem cut8_ok {H0 : Heap} {vf : Value} {l : List En} (hf : Sli (all H0) H0 l vf) : ∃ H' v, Cl 27 [vf] H0 v H' ∧ Keep (all H0) H0 H' ∧ Sli (all H') H' (cutE (l.take 60)) v := by
  obtain ⟨H', v, a, b, c⟩ := cut8_loop hf (min l.length 60) 0 H0 (fun _ => False) nilS (by omega) (Keep.refl _ _) (by rw [List.take_zero]; exact AccR.nil) (fun b hb => by simp [blkOf] at hb) (fun b hb => hb.elim)
  have a := a.loop
  refine ⟨H', v, ?_, b, c⟩
  refine Ev.enter (fun n => f27_eq rfl n _ _) ?_
  simp only [f27, ruA, ruB, ruC, ruE, ruD, lenStr, Int.reduceBEq, Int.reduceBNe]
  exact a
theorem cutE_ok {l : List En} : Eok (cutE (l.take 60)) := by
  refine ⟨by simp [cutE, List.length_take]; omega, fun e he => ?_⟩
  simp only [cutE, List.mem_map] at he
  obtain ⟨x, _, rfl⟩ := he
  simp only [cut1, List.length_take]; omega
theorem dfs_len (l : List En) (root : List UInt8) : (orderN root l).1.length ≤ 32 := by
  simp only [orderN]
  split
  · simp
  · cases findN l root with
    | none => simp
    | some i =>
      simp only
      have c := dfs_cnt l 33 i (dfs0 l) (by simp [dfs0])
      obtain ⟨c1, c2, _⟩ := c
      simp only [dfs0, List.length_nil] at c2
      cases (dfs l 33 i (dfs0 l)).2 with
      | some e => simp
      | none => simp only [dfs0] at c1 ⊢; omega
section
variable {H0 H : Heap} {l : List En} {vf va : Value} (hf : Sli (all H0) H0 l vf) (hK : Keep (all H0) H0 H) (ha : Sli (all H) H (cutE (l.take 60)) va)
include hf hK ha
/-- The paths are the same. -/
theorem law3_loop : ∀ (k i : Nat), i + k = (cutE (l.take 60)).length → Ev (fun n m => f16_L0 real (AC n) n m vf va (.int .i64 (i : Int)) H) (.bool true, H) := by
  have hc := cutE_ok (l := l)
  have hcl := hc.n
  intro k
  induction k with
  | zero =>
    intro i hi
    have aw : Cl 8 [] H (.bool true) H := ⟨1, fun n m h1 _ => by
      obtain ⟨n, rfl⟩ : ∃ k, n = k + 1 := ⟨n - 1, by omega⟩
      exact acall_ext Tryd.func8 (by kernel_rfl) (by kernel_rfl) (g := fun args H => match args with | [] => some (.bool true, H) | _ => none) rfl n [] H⟩
    refine Ev.step (fun n m => f16_L0.eq_2 _ _ _ _ _ _ _ _) ?_
    simp only [ruA, ruB, ruC, ruE, ruD, lenStr, Int.reduceBEq, Int.reduceBNe, ha.lenS, idx_ge (show (cutE (l.take 60)).length ≤ i by omega)]
    refine Ev.callC aw ?_
    exact Ev.pure _
  | succ k ih =>
    intro i hi
    have hle : (cutE (l.take 60)).length ≤ l.length := by simp only [cutE, List.length_map, List.length_take]; omega
    have hl60 : i < (l.take 60).length := by have : (cutE (l.take 60)).length = (l.take 60).length := by simp [cutE]
                                             omega
    obtain ⟨e, he⟩ : ∃ e, l[i]? = some e := ⟨_, List.getElem?_eq_getElem (by omega)⟩
    have hec : (cutE (l.take 60))[i]? = some (cut1 e) := by
      simp only [cutE, List.getElem?_map]
      have : (l.take 60)[i]? = l[i]? := by rw [List.getElem?_take]; simp only [List.length_take] at hl60; rw [if_pos (by omega)]
      rw [this, he]; rfl
    obtain ⟨b, o, w, a1, a4, a3⟩ := en_at0 hf he
    obtain ⟨b', o', w', c1, c4, c3⟩ := en_at0 ha hec
    have a3 := (a3 H hK).1
    have c3 := (c3 H (Keep.refl _ _)).1
    have ih := ih (i + 1) (by omega)
    have ep : (cut1 e).P = e.P := rfl
    rw [ep] at c3
    refine Ev.step (fun n m => f16_L0.eq_2 _ _ _ _ _ _ _ _) ?_
    simp only [ruA, ruB, ruC, ruE, ruD, lenStr, Int.reduceBEq, Int.reduceBNe, ha.lenS, idx_lt (show i < (cutE (l.take 60)).length by omega), a1, c1, a3, c3, Nat.add_zero, bs_beq, decide_true, idx_up (show i < 9223372036854775807 by omega)]
    exact ih
end
/-- ImportsOrder. -/
theorem order_law {H0 : Heap} {l : List En} {vf : Value} (hf : Sli (all H0) H0 l vf) (root : List UInt8) : ∃ H', Cl 16 [.string (bs root), vf] H0 (.bool true) H' ∧ Keep (all H0) H0 H' := by
  have hc := cutE_ok (l := l)
  obtain ⟨H1, va, a1, a2, a3⟩ := cut5_ok hf
  obtain ⟨H2, o, b1, b2, b3⟩ := order_ok a3 hc root
  have K2 := a2.tr b2
  obtain ⟨H3, vb, c1, c2, c3⟩ := cut8_ok (hf.up K2)
  obtain ⟨H4, o', d1, d2, d3⟩ := rorder_ok c3 hc root
  have K24 := c2.tr d2
  have K4 := K2.tr K24
  generalize hr : orderN root (cutE (l.take 60)) = r at *
  have hlen : r.1.length ≤ 32 := by rw [← hr]; exact dfs_len _ _
  have bI : Sl (all H4) H4 1 o (r.1.map fun (k : Nat) => (k : Int)).length (I (r.1.map fun (k : Nat) => (k : Int))) := by
    have := b3.up K24
    rw [NI_I] at this
    simpa using this
  have dI : Sl (all H4) H4 1 o' (r.1.map fun (k : Nat) => (k : Int)).length (I (r.1.map fun (k : Nat) => (k : Int))) := by
    have := d3
    rw [NI_I] at this
    simpa using this
  have q := eqi_ok bI dI (by simp; omega)
  rw [decide_eq_true rfl] at q
  have main := (law3_loop hf K4 (a3.up (b2.tr K24)) (cutE (l.take 60)).length 0 (by omega)).loop
  have en : (r.2.2 != r.2.2) = false := by simp
  refine ⟨H4, ?_, K4⟩
  refine Ev.enter (fun n => f16_eq rfl n _ _ _) ?_
  simp only [f16, ruA, ruB, ruC, ruE, ruD, lenStr, Int.reduceBEq, Int.reduceBNe]
  refine Ev.callC a1 ?_
  refine Ev.callC b1 ?_
  simp only [ruA, ruB, ruC, ruE, ruD, lenStr, Int.reduceBEq, Int.reduceBNe]
  refine Ev.callC c1 ?_
  refine Ev.callC d1 ?_
  simp only [ruA, ruB, ruC, ruE, ruD, lenStr, Int.reduceBEq, Int.reduceBNe]
  refine Ev.callC q ?_
  simp only [ruA, ruB, ruC, ruE, ruD, lenStr, Int.reduceBEq, Int.reduceBNe, bs_beq, decide_true, en]
  exact main
end Go.Eng
