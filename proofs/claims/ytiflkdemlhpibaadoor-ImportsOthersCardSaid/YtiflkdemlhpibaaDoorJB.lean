/- Files of a project, as they lie; find, May, EqInts. -/
import Derived.Test.YtiflkdemlhpibaaDoorJA
import Derived.Test.YtiflkdemlhpibaaDoorIP
import Derived.Test.YtiflkdemlhpibaaDoorEnhDD
import Derived.Test.YtiflkdemlhpibaaDoorEnhEE
import Derived.Test.YtiflkdemlhpibaaDoorEnhGG
set_option linter.unusedVariables false
set_option linter.unusedSimpArgs false
set_option linter.unusedSectionVars false
set_option maxRecDepth 100000
namespace Go.Eng
open Go Go.Proofs

abbrev EE : Ext := orE (once 8 (.bool true)) (orE (srtE 23) (itoE 14))
abbrev Cl (f : FuncId) (args : List Value) (H : Heap) (v : Value) (H' : Heap) : Prop := ClP Tryd.prog false EE f args H v H'
noncomputable abbrev AC (n : Nat) : CallF := acall Tryd.prog false EE n

instance : Rp En := Rp.via fun x => ((show Txt from x.P), (show List Txt from x.I), ())
section
variable {R : Nat → Prop} {H : Heap}
theorem rep_en {x : En} {cs : List Value} : Rp.rep R H x cs ↔ ∃ v, cs = [.string (bs x.P), v] ∧ Sl R H 1 v x.I.length (STRL x.I) := by
  constructor
  · rintro ⟨a, b, rfl, h1, c, d, rfl, ⟨v, rfl, ds, h2, h3⟩, h4⟩
    obtain rfl := h4
    obtain rfl := h1
    obtain rfl := rpl_txt.1 h3
    exact ⟨v, rfl, h2⟩
  · rintro ⟨v, rfl, h⟩
    exact ⟨[_], _, rfl, rfl, [_], _, rfl, ⟨v, rfl, _, h, rpl_txt.2 rfl⟩, rfl⟩
end
/-- All lengths are small. -/
structure Eok (l : List En) : Prop where
  n : l.length ≤ 1000000000000
  i : ∀ e ∈ l, e.I.length ≤ 1000000000000
/-- An element: its address, its path, its imports. -/
theorem en_at {R : Nat → Prop} {H : Heap} {l : List En} {v : Value} (h : Sli R H l v) {i : Nat} {e : En} (he : l[i]? = some e) :
    ∃ b o w, iAddrS 2 v (.int .i64 (i : Int)) = some (ptr b o) ∧ R b ∧ ldC (ptr b o) H = some (.string (bs e.P), H) ∧ ldC (ptr b (o + 1)) H = some (w, H) ∧ Sl R H 1 w e.I.length (STRL e.I) ∧ Eng.ldA 2 (ptr b o) H = some (.agg #[.string (bs e.P), w], H) := by
  obtain ⟨b, o, c, a1, a2, a3, a4, a5⟩ := h.at he
  obtain ⟨w, rfl, s⟩ := rep_en.1 a3
  exact ⟨b, o, w, a1, a2, a4 0 _ rfl, a4 1 _ rfl, s, a5⟩
def fI : Option Nat → Int
  | none => -1
  | some k => k
section
variable {R : Nat → Prop} {H : Heap} {l : List En} {v : Value} {p : List UInt8} (h : Sli R H l v) (hn : l.length ≤ 1000000000000)
include h hn
theorem find_loop : ∀ (k i : Nat), i + k = l.length → Ev (fun n m => f34_L0 real (AC n) n m v (.string (bs p)) (.int .i64 (i : Int)) H) (.int .i64 (fI ((findN (l.drop i) p).map (· + i))), H) := by
  intro k
  induction k with
  | zero =>
    intro i hi
    have e1 : l.drop i = [] := List.drop_eq_nil_of_le (by omega)
    rw [e1]
    refine Ev.step (fun n m => f34_L0.eq_2 _ _ _ _ _ _ _ _) ?_
    simp only [ruA, ruB, ruC, ruE, ruD, lenStr, Int.reduceBEq, Int.reduceBNe, h.lenS, idx_ge (show l.length ≤ i by omega)]
    exact Ev.pure _
  | succ k ih =>
    intro i hi
    obtain ⟨x, h1, h2⟩ := drop_at (l := l) (i := i) (by omega)
    obtain ⟨b, o, w, a1, _, a2, a3, a4, _⟩ := en_at h h1
    have ih := ih (i + 1) (by omega)
    refine Ev.step (fun n m => f34_L0.eq_2 _ _ _ _ _ _ _ _) ?_
    rw [h2]
    by_cases hp : x.P = p
    · simp only [ruA, ruB, ruC, ruE, ruD, lenStr, Int.reduceBEq, Int.reduceBNe, h.lenS, idx_lt (show i < l.length by omega), a1, a2, Nat.add_zero, bs_beq, decide_eq_true hp]
      simp only [findN, if_pos hp, Option.map_some, Nat.zero_add, fI]
      exact Ev.pure _
    · simp only [ruA, ruB, ruC, ruE, ruD, lenStr, Int.reduceBEq, Int.reduceBNe, h.lenS, idx_lt (show i < l.length by omega), a1, a2, Nat.add_zero, bs_beq, decide_eq_false hp, idx_up (show i < 9223372036854775807 by omega)]
      have e : ((findN (x :: l.drop (i + 1)) p).map (· + i)) = (findN (l.drop (i + 1)) p).map (· + (i + 1)) := by
        simp only [findN, if_neg hp]
        cases findN (l.drop (i + 1)) p with
        | none => rfl
        | some j => simp only [Option.map_some]; congr 1; omega
      rw [e]
      exact ih
/-- Where a path's file is. -/
theorem find_ok : Cl 34 [v, .string (bs p)] H (.int .i64 (fI (findN l p))) H := by
  have e : ((findN (l.drop 0) p).map (· + 0)) = findN l p := by
    rw [List.drop_zero]
    cases findN l p <;> rfl
  have m := (find_loop (p := p) h hn l.length 0 (by omega)).loop
  rw [e] at m
  refine Ev.enter (fun n => f34_eq rfl n _ _ _) ?_
  simp only [f34, ruA, ruB, ruC, ruE, ruD, lenStr, Int.reduceBEq, Int.reduceBNe]
  exact m
end
theorem path_at {l : List En} {i : Nat} {e : En} (h : l[i]? = some e) : (l.map (·.P))[i]? = some e.P := by simp [h]
theorem nodup_snoc {l : List En} {i : Nat} {e : En} (h : l[i]? = some e) : Dist (l.take (i + 1)) ↔ Dist (l.take i) ∧ ∀ (j : Nat) (e' : En), j < i → l[j]? = some e' → e'.P ≠ e.P := by
  have h1 : l.take (i + 1) = l.take i ++ [e] := by rw [List.take_add_one, h]; rfl
  unfold Dist
  rw [h1, List.map_append, List.nodup_append]
  constructor
  · rintro ⟨a, _, b⟩
    refine ⟨a, fun j e' hj he' => b _ ?_ _ (by simp)⟩
    exact List.mem_map.2 ⟨e', List.mem_of_getElem? (i := j) (by rw [List.getElem?_take, if_pos hj]; exact he'), rfl⟩
  · rintro ⟨a, b⟩
    refine ⟨a, by simp, fun x hx y hy => ?_⟩
    simp only [List.map_cons, List.map_nil, List.mem_singleton] at hy
    subst hy
    obtain ⟨e', he', rfl⟩ := List.mem_map.1 hx
    obtain ⟨j, hj⟩ := List.mem_iff_getElem?.1 he'
    rw [List.getElem?_take] at hj
    split at hj
    · rename_i hji; exact b j e' hji hj
    · cases hj
theorem dist_take {l : List En} (h : Dist l) (i : Nat) : Dist (l.take i) := List.Nodup.sublist (List.Sublist.map _ (List.take_sublist i l)) h
section
variable {R : Nat → Prop} {H : Heap} {l : List En} {v : Value} (h : Sli R H l v) (hn : l.length ≤ 1000000000000)
include h hn
theorem may_in {i : Nat} {e : En} (he : l[i]? = some e) (hd : Dist (l.take i)) {r : Int} (nx : Dist (l.take (i + 1)) → Ev (fun n m => f33_L0 real (AC n) n m v (.int .i64 ((i + 1 : Nat) : Int)) H) (.int .i64 r, H)) (hr : ¬ Dist l → r = 2) :
    ∀ (k j : Nat), j + k = i → (∀ (j' : Nat) (e' : En), j' < j → l[j']? = some e' → e'.P ≠ e.P) → Ev3 (fun n m m' => f33_L1 real (AC n) n (f33_L0 real (AC n) n m) m' v (.int .i64 (i : Int)) (.int .i64 (j : Int)) H) (.int .i64 r, H) := by
  have hi := (List.getElem?_eq_some_iff.1 he).1
  obtain ⟨b, o, w, a1, _, a2, _⟩ := en_at h he
  intro k
  induction k with
  | zero =>
    intro j hj hb
    obtain rfl : j = i := by omega
    refine Ev3.step (fun n m m' => f33_L1.eq_2 _ _ _ _ _ _ _ _ _) ?_
    simp only [ruA, ruB, ruC, ruE, ruD, lenStr, Int.reduceBEq, Int.reduceBNe, idx_ge (Nat.le_refl j), idx_up (show j < 9223372036854775807 by omega)]
    exact Ev3.of (nx ((nodup_snoc he).2 ⟨hd, hb⟩))
  | succ k ih =>
    intro j hj hb
    obtain ⟨e', he'⟩ : ∃ e', l[j]? = some e' := ⟨_, List.getElem?_eq_getElem (by omega)⟩
    obtain ⟨b', o', w', a1', _, a2', _⟩ := en_at h he'
    refine Ev3.step (fun n m m' => f33_L1.eq_2 _ _ _ _ _ _ _ _ _) ?_
    by_cases hp : e'.P = e.P
    · simp only [ruA, ruB, ruC, ruE, ruD, lenStr, Int.reduceBEq, Int.reduceBNe, idx_lt (show j < i by omega), a1, a1', a2, a2', Nat.add_zero, bs_beq, decide_eq_true hp]
      have : ¬ Dist l := fun hdl => ((nodup_snoc he).1 (dist_take hdl (i + 1))).2 j e' (by omega) he' hp
      rw [hr this]
      exact Ev3.pure _
    · simp only [ruA, ruB, ruC, ruE, ruD, lenStr, Int.reduceBEq, Int.reduceBNe, idx_lt (show j < i by omega), a1, a1', a2, a2', Nat.add_zero, bs_beq, decide_eq_false hp, idx_up (show j < 9223372036854775807 by omega)]
      refine ih (j + 1) (by omega) fun j' e'' hj' he'' => ?_
      by_cases hjj : j' = j
      · subst hjj; rw [he'] at he''; injection he'' with he''; subst he''; exact hp
      · exact hb j' e'' (by omega) he''
theorem may_loop : ∀ (k i : Nat), i + k = l.length → Dist (l.take i) → Ev (fun n m => f33_L0 real (AC n) n m v (.int .i64 (i : Int)) H) (.int .i64 (if Dist l then 0 else 2), H) := by
  intro k
  induction k with
  | zero =>
    intro i hi hd
    rw [List.take_of_length_le (by omega)] at hd
    refine Ev.step (fun n m => f33_L0.eq_2 _ _ _ _ _ _ _) ?_
    simp only [ruA, ruB, ruC, ruE, ruD, lenStr, Int.reduceBEq, Int.reduceBNe, h.lenS, idx_ge (show l.length ≤ i by omega), if_pos hd]
    exact Ev.pure _
  | succ k ih =>
    intro i hi hd
    obtain ⟨e, he⟩ : ∃ e, l[i]? = some e := ⟨_, List.getElem?_eq_getElem (by omega)⟩
    have main := (may_in (r := if Dist l then 0 else 2) h hn he hd (fun hd' => ih (i + 1) (by omega) hd') (fun hx => if_neg hx) i 0 (by omega) (fun j' e' hj => by omega)).close
    refine Ev.step (fun n m => f33_L0.eq_2 _ _ _ _ _ _ _) ?_
    simp only [ruA, ruB, ruC, ruE, ruD, lenStr, Int.reduceBEq, Int.reduceBNe, h.lenS, idx_lt (show i < l.length by omega)]
    exact main
/-- May they be gone through? -/
theorem may_ok : Cl 33 [v] H (.int .i64 (mayN l)) H := by
  have m := (may_loop h hn l.length 0 (by omega) (by rw [List.take_zero]; exact List.nodup_nil)).loop
  refine Ev.enter (fun n => f33_eq rfl n _ _) ?_
  by_cases hb : 1000 < l.length
  · have e : decide ((l.length : Int) > 1000) = true := by simp; omega
    simp only [f33, ruA, ruB, ruC, ruE, ruD, lenStr, Int.reduceBEq, Int.reduceBNe, h.lenS, e, mayN, if_pos hb]
    exact Ev.pure _
  · have e : decide ((l.length : Int) > 1000) = false := by simp; omega
    simp only [f33, ruA, ruB, ruC, ruE, ruD, lenStr, Int.reduceBEq, Int.reduceBNe, h.lenS, e, mayN, if_neg hb]
    exact m
end
/-! ### numbers, the same -/
section
variable {R R' : Nat → Prop} {H : Heap} {xs ys : List Int} {v w : Value} (h : Sl R H 1 v xs.length (I xs)) (h' : Sl R' H 1 w ys.length (I ys)) (hn : xs.length ≤ 1000000000000)
include h h' hn
theorem eqi_loop (hl : xs.length = ys.length) : ∀ (k i : Nat), i + k = xs.length → Ev (fun n m => f19_L0 real (AC n) n m v w (.int .i64 (i : Int)) H) (.bool (decide (xs.drop i = ys.drop i)), H) := by
  intro k
  induction k with
  | zero =>
    intro i hi
    have e1 : xs.drop i = [] := List.drop_eq_nil_of_le (by omega)
    have e2 : ys.drop i = [] := List.drop_eq_nil_of_le (by omega)
    rw [e1, e2]
    refine Ev.step (fun n m => f19_L0.eq_2 _ _ _ _ _ _ _ _) ?_
    simp only [ruA, ruB, ruC, ruE, ruD, lenStr, Int.reduceBEq, Int.reduceBNe, h.lenS, idx_ge (show xs.length ≤ i by omega)]
    exact Ev.pure _
  | succ k ih =>
    intro i hi
    obtain ⟨x, h1, h2⟩ := drop_at (l := xs) (i := i) (by omega)
    obtain ⟨y, h3, h4⟩ := drop_at (l := ys) (i := i) (by omega)
    obtain ⟨a, a1, a2⟩ := h.at1 (I_at h1)
    obtain ⟨b, b1, b2⟩ := h'.at1 (I_at h3)
    have ih := ih (i + 1) (by omega)
    refine Ev.step (fun n m => f19_L0.eq_2 _ _ _ _ _ _ _ _) ?_
    rw [h2, h4]
    by_cases hxy : x = y
    · subst hxy
      simp only [ruA, ruB, ruC, ruE, ruD, lenStr, Int.reduceBEq, Int.reduceBNe, h.lenS, idx_lt (show i < xs.length by omega), a1, a2, b1, b2, idx_up (show i < 9223372036854775807 by omega), List.cons.injEq, true_and]
      exact ih
    · have e : (x != y) = true := by simpa using hxy
      simp only [ruA, ruB, ruC, ruE, ruD, lenStr, Int.reduceBEq, Int.reduceBNe, h.lenS, idx_lt (show i < xs.length by omega), a1, a2, b1, b2, e, List.cons.injEq, hxy, false_and, decide_false]
      exact Ev.pure _
theorem eqi_ok : Cl 19 [v, w] H (.bool (decide (xs = ys))) H := by
  refine Ev.enter (fun n => f19_eq rfl n _ _ _) ?_
  by_cases hl : xs.length = ys.length
  · have m := (eqi_loop h h' hn hl xs.length 0 (by omega)).loop
    rw [List.drop_zero, List.drop_zero] at m
    simp only [f19, ruA, ruB, ruC, ruE, ruD, lenStr, Int.reduceBEq, Int.reduceBNe, h.lenS, h'.lenS, i_neq, decide_eq_true hl]
    exact m
  · have e : decide (xs = ys) = false := decide_eq_false fun e => hl (by rw [e])
    simp only [f19, ruA, ruB, ruC, ruE, ruD, lenStr, Int.reduceBEq, Int.reduceBNe, h.lenS, h'.lenS, i_neq, decide_eq_false hl, e]
    exact Ev.pure _
end
end Go.Eng
