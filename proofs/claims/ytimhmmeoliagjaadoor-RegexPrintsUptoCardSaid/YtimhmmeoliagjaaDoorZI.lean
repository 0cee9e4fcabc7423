import Derived.Test.YtimhmmeoliagjaaDoorZG
set_option linter.unusedVariables false
set_option linter.unusedSimpArgs false
set_option linter.unusedSectionVars false
set_option maxRecDepth 100000
namespace Go.Eng
open Go Go.Proofs
open Tryd (prog)

abbrev MF : Type := Nat → Nat → Bool
def RwC (n : Nat) (g : Nat → Bool) : List Value := (List.range n).map fun j => .bool (g j)
theorem RwC_len (n : Nat) (g : Nat → Bool) : (RwC n g).length = n := by simp [RwC]
theorem RwC_at {n j : Nat} {g : Nat → Bool} (h : j < n) : (RwC n g)[j]? = some (.bool (g j)) := by simp [RwC, h]
theorem RwC_set {n j : Nat} {g : Nat → Bool} {b : Bool} (h : j < n) : (RwC n g).set j (.bool b) = RwC n (fun k => if k = j then b else g k) := by
 apply List.ext_getElem?
 intro i
 rw [List.getElem?_set]
 by_cases hi : i < n
 ·rw [RwC_at hi, RwC_at hi]
  by_cases he : j = i
  ·subst he
   rw [if_pos rfl, if_pos (by rw [RwC_len]; exact hi), if_pos rfl]
  ·rw [if_neg he, if_neg fun h => he h.symm]
 ·rw [List.getElem?_eq_none (by rw [RwC_len]; omega), List.getElem?_eq_none (by rw [RwC_len]; omega)]
  split
  ·rw [if_neg (by rw [RwC_len]; omega)]
  ·rfl
theorem RwC_congr {n : Nat} {g h : Nat → Bool} (e : ∀ j, j < n → g j = h j) : RwC n g = RwC n h := by
 unfold RwC
 apply List.map_congr_left
 intro j hj
 rw [e j (List.mem_range.1 hj)]
def MV (R : Nat → Prop) (H : Heap) (v : Value) (n : Nat) (f : MF) : Prop := ∃ rows : Nat → Value, Sl R H 1 v n ((List.range n).map rows) ∧ ∀ i, i < n → Sl R H 1 (rows i) n (RwC n (f i))
section
variable {R R' : Nat → Prop} {H H' : Heap} {v : Value} {n : Nat} {f g : MF}
theorem MV.keep (h : MV R H v n f) (k : Keep R H H') : MV R H' v n f := by
 obtain ⟨rows, h1, h2⟩ := h
 exact ⟨rows, h1.keep k, fun i hi => (h2 i hi).keep k⟩
theorem MV.mono (h : MV R H v n f) (hR : ∀ b, R b → R' b) : MV R' H v n f := by
 obtain ⟨rows, h1, h2⟩ := h
 exact ⟨rows, h1.mono hR, fun i hi => (h2 i hi).mono hR⟩
theorem MV.up (h : MV (all H) H v n f) (k : Keep (all H) H H') : MV (all H') H' v n f := (h.keep k).mono (upA k)
theorem MV.congr (h : MV R H v n f) (e : ∀ i j, i < n → j < n → f i j = g i j) : MV R H v n g := by
 obtain ⟨rows, h1, h2⟩ := h
 exact ⟨rows, h1, fun i hi => by rw [← RwC_congr (e i · hi)]; exact h2 i hi⟩
theorem MV.lenS (h : MV R H v n f) : lenS v = some (.int .i64 (n : Int)) := by
 obtain ⟨rows, h1, _⟩ := h
 exact h1.lenS
theorem MV.at (h : MV R H v n f) {i : Nat} (hi : i < n) : ∃ p r, iAddrS 1 v (.int .i64 (i : Int)) = some p ∧ ldC p H = some (r, H) ∧ ∀ j, j < n → ∃ q, iAddrS 1 r (.int .i64 (j : Int)) = some q ∧ ldC q H = some (.bool (f i j), H) := by
 obtain ⟨rows, h1, h2⟩ := h
 obtain ⟨p, p1, p2⟩ := h1.at1 (i := i) (x := rows i) (by simp [hi])
 exact ⟨p, rows i, p1, p2, fun j hj => (h2 i hi).at1 (RwC_at hj)⟩
end
def sliceN (b n : Nat) : Value := .slice (some ⟨b, 0, none⟩) n n
structure OM (lo : Nat) (H : Heap) (bM : Nat) (rb : Nat → Nat) (n : Nat) (f : MF) : Prop where
 l : lo ≤ bM
 u : bM < H.n
 g : H.get bM = some ⟨(List.range n).map fun i => sliceN (rb i) n, 1, true⟩
 r : ∀ i, i < n → lo ≤ rb i ∧ rb i < H.n ∧ rb i ≠ bM ∧ H.get (rb i) = some ⟨RwC n (f i), 1, true⟩
 d : ∀ i j, i < n → j < n → i ≠ j → rb i ≠ rb j
def updF (f : MF) (i j : Nat) (b : Bool) : MF := fun i' j' => if i' = i ∧ j' = j then b else f i' j'
section
variable {lo : Nat} {H H' H0 : Heap} {bM : Nat} {rb : Nat → Nat} {n : Nat} {f g : MF}
theorem OM.congr (h : OM lo H bM rb n f) (e : ∀ i j, i < n → j < n → f i j = g i j) : OM lo H bM rb n g :=
 ⟨h.l, h.u, h.g, fun i hi => by
  obtain ⟨a, b, c, d⟩ := h.r i hi
  exact ⟨a, b, c, by rw [d, RwC_congr (e i · hi)]⟩, h.d⟩
theorem OM.keep (h : OM lo H bM rb n f) (k : Keep (all H) H H') : OM lo H' bM rb n f :=
 ⟨h.l, Nat.lt_of_lt_of_le h.u k.1, (k.2 _ h.u).trans h.g, fun i hi => by
  obtain ⟨a, b, c, d⟩ := h.r i hi
  exact ⟨a, Nat.lt_of_lt_of_le b k.1, c, (k.2 _ b).trans d⟩, h.d⟩
def Fr (lo : Nat) (H : Heap) : Nat → Prop := fun q => lo ≤ q ∧ q < H.n
theorem frA (lo : Nat) (H : Heap) : ∀ q, Fr lo H q → all H q := fun q h => h.2
theorem OM.mf (h : OM lo H bM rb n f) : MV (Fr lo H) H (sliceN bM n) n f := by
 refine ⟨fun i => sliceN (rb i) n, .inr (.inr ⟨bM, 0, none, n, _, rfl, ⟨h.l, h.u⟩, h.g, by simp, Nat.le_refl _, ?_⟩), fun i hi => ?_⟩
 ·simp only [cut, List.drop_zero]
  rw [List.take_of_length_le (by simp)]
 ·obtain ⟨a, b, c, d⟩ := h.r i hi
  refine .inr (.inr ⟨rb i, 0, none, n, _, rfl, ⟨a, b⟩, d, by simp [RwC_len], Nat.le_refl _, ?_⟩)
  simp only [cut, List.drop_zero]
  rw [List.take_of_length_le (by simp [RwC_len])]
theorem OM.row (h : OM lo H bM rb n f) {i : Nat} (hi : i < n) : iAddrS 1 (sliceN bM n) (.int .i64 (i : Int)) = some (ptr bM i) ∧ ldC (ptr bM i) H = some (sliceN (rb i) n, H) :=
 ⟨iS hi, ldG h.g (by simp [hi])⟩
theorem OM.cell (h : OM lo H bM rb n f) {i j : Nat} (hi : i < n) (hj : j < n) : iAddrS 1 (sliceN (rb i) n) (.int .i64 (j : Int)) = some (ptr (rb i) j) ∧ ldC (ptr (rb i) j) H = some (.bool (f i j), H) :=
 ⟨iS hj, ldG (h.r i hi).2.2.2 (RwC_at hj)⟩
theorem OM.set (h : OM lo H bM rb n f) {i j : Nat} (hi : i < n) (hj : j < n) (b : Bool) : ∃ H', stV 1 (ptr (rb i) j) (.bool b) H = some (undef, H') ∧ OM lo H' bM rb n (updF f i j b) ∧ Keep (fun q => q < lo) H H' := by
 obtain ⟨a1, a2, a3, a4⟩ := h.r i hi
 refine ⟨H.upd (rb i) (some ⟨RwC n (fun k => if k = j then b else f i k), 1, true⟩), ?_, ?_, Keep.upd fun hb => by omega⟩
 ·rw [stV1_box a4 (by rw [RwC_len]; exact hj) rfl rfl, RwC_set hj]
 ·refine ⟨h.l, h.u, (upd_ne (Ne.symm a3)).trans h.g, fun k hk => ?_, h.d⟩
  obtain ⟨b1, b2, b3, b4⟩ := h.r k hk
  refine ⟨b1, b2, b3, ?_⟩
  by_cases he : k = i
  ·subst he
   rw [upd_self]
   congr 2
   exact RwC_congr fun j' _ => by
    unfold updF
    by_cases hj' : j' = j
    ·rw [if_pos hj', if_pos ⟨rfl, hj'⟩]
    ·rw [if_neg hj', if_neg fun h => hj' h.2]
  ·rw [upd_ne (h.d k i hk hi he), b4]
   congr 2
   exact RwC_congr fun j' _ => by
    unfold updF
    rw [if_neg fun h => he h.1]
end
theorem rwc_false (n : Nat) : RwC n (fun _ => false) = MB 0 n none2 := rfl
theorem none_loop {n : Nat} (hn : n ≤ 1000) {H0 : Heap} : ∀ (d i : Nat) (G : Heap) (v : Value) (rb : Nat → Nat), i + d = n → Keep (all H0) H0 G → Acc (all H0) G 1 v i ((List.range i).map fun k => sliceN (rb k) n) →
  (∀ k, k < i → H0.n ≤ rb k ∧ rb k < G.n ∧ blkOf v ≠ some (rb k) ∧ G.get (rb k) = some ⟨RwC n (fun _ => false), 1, true⟩) → (∀ j k, j < i → k < i → j ≠ k → rb j ≠ rb k) →
  ∃ (w : Value) (G' : Heap) (rb' : Nat → Nat), Ev (fun m j => f61_L0 real (AX m) m j (.int .i64 (n : Int)) v (.int .i64 (i : Int)) G) (w, G') ∧ Keep (all H0) H0 G' ∧ Acc (all H0) G' 1 w n ((List.range n).map fun k => sliceN (rb' k) n) ∧
   (∀ k, k < n → H0.n ≤ rb' k ∧ rb' k < G'.n ∧ blkOf w ≠ some (rb' k) ∧ G'.get (rb' k) = some ⟨RwC n (fun _ => false), 1, true⟩) ∧ (∀ j k, j < n → k < n → j ≠ k → rb' j ≠ rb' k) := by
 intro d
 induction d with
 | zero =>
  intro i G v rb hi kG hA hr hd
  obtain rfl : i = n := by omega
  refine ⟨v, G, rb, Ev.step (fun n m => f61_L0.eq_2 _ _ _ _ _ _ _ m) ?_, kG, hA, hr, hd⟩
  have e : ((i : Int) < (i : Int)) = False := by simp
  simp only [ruZ, Int.reduceBEq, Int.reduceBNe, e]
  exact Ev.pure _
 | succ d ih =>
  intro i G v rb hi kG hA hr hd
  obtain ⟨G1, hG1⟩ : ∃ G1, G.push ⟨MB 0 n none2, 1, true⟩ = G1 := ⟨_, rfl⟩
  obtain ⟨G2, hG2⟩ : ∃ G2, G1.push ⟨[sliceN G.n n], 1, true⟩ = G2 := ⟨_, rfl⟩
  have n1 : G1.n = G.n + 1 := by rw [← hG1]; rfl
  have n2 : G2.n = G.n + 2 := by rw [← hG2, push_n, n1]
  have k1 : Keep (all G) G G1 := by rw [← hG1]; exact push_keep
  have k2 : Keep (all G1) G1 G2 := by rw [← hG2]; exact push_keep
  have k12 := k1.trans (k2.mono (upA k1))
  have hgn := kG.1
  have g2 : G2.get G.n = some ⟨MB 0 n none2, 1, true⟩ := by rw [k2.2 _ (show G.n < G1.n by omega), ← hG1]; exact push_self
  have hadd : addend 1 (.slice (some ⟨G1.n, 0, none⟩) 1 1) G2 = some (1, [sliceN G.n n]) := by rw [← hG2]; exact addend_push rfl
  have hmb : mostBytes = 140737488355328 := rfl
  obtain ⟨v', G3, a1, a2, a3, a4, a5, _⟩ := (hA.keep k12).appQ (by_ := 24) (by omega) hadd rfl (by omega)
  have hvG : ∀ b, blkOf v = some b → b < G.n := fun b hb => by
   rcases hA with ⟨rfl, _⟩ | ⟨c, rfl, _, hc, _⟩
   ·simp [blkOf] at hb
   ·simp only [blkOf, Option.some.injEq] at hb
    omega
  have hn3 := a4.1
  have hlist : ((List.range i).map fun k => sliceN (rb k) n) ++ [sliceN G.n n] = (List.range (i + 1)).map fun k => sliceN (if k = i then G.n else rb k) n := by
   rw [List.range_succ, List.map_append]
   congr 1
   ·apply List.map_congr_left
    intro k hk
    rw [if_neg (by have := List.mem_range.1 hk; omega)]
   ·simp
  rw [hlist] at a2
  obtain ⟨w, G', rb', r1, r2, r3, r4, r5⟩ := ih (i + 1) G3 v' (fun k => if k = i then G.n else rb k) (by omega) ((kG.trans (k12.mono (upA kG))).trans a3) a2 (fun k hk => by
   by_cases he : k = i
   ·simp only [if_pos he]
    refine ⟨by omega, by omega, fun hb => ?_, ?_⟩
    ·rcases a5 _ hb with h | h
     ·have := hvG _ h; omega
     ·omega
    ·rw [a4.2 _ ⟨by omega, fun hb => by have := hvG _ hb; omega⟩, g2, rwc_false]
   ·simp only [if_neg he]
    obtain ⟨b1, b2, b3, b4⟩ := hr k (by omega)
    refine ⟨b1, by omega, fun hb => ?_, ?_⟩
    ·rcases a5 _ hb with h | h
     ·exact b3 h
     ·omega
    ·rw [a4.2 _ ⟨by omega, b3⟩, k12.2 _ b2, b4]) (fun j k hj hk hjk => by
   by_cases h1 : j = i
   ·by_cases h2 : k = i
    ·omega
    ·simp only [if_pos h1, if_neg h2]
     have := (hr k (by omega)).2.1; omega
   ·by_cases h2 : k = i
    ·simp only [if_pos h2, if_neg h1]
     have := (hr j (by omega)).2.1; omega
    ·simp only [if_neg h1, if_neg h2]
     exact hd j k (by omega) (by omega) hjk)
  refine ⟨w, G', rb', Ev.step (fun n m => f61_L0.eq_2 _ _ _ _ _ _ _ m) ?_, r2, r3, r4, r5⟩
  have e : ((i : Int) < (n : Int)) = True := eq_true (by omega)
  have m1 : mkS 1 1 [.bool false] (.int .i64 (n : Int)) (.int .i64 (n : Int)) G = some (sliceN G.n n, G1) := by rw [← hG1]; exact mkB_ok 0 (by omega)
  have b1 : bldS 1 1 [(.slice none 0 0)] [(0, 1, sliceN G.n n)] G1 = some (.slice (some ⟨G1.n, 0, none⟩) 1 1, G2) := by rw [← hG2]; exact bld1 rfl rfl
  simp only [ruZ, Int.reduceBEq, Int.reduceBNe, e, m1, b1, a1, idx_up (show i < 9223372036854775807 by omega)]
  exact r1
theorem none_m {n : Nat} (h0 : 0 < n) (hn : n ≤ 1000) (H : Heap) : ∃ (bM : Nat) (rb : Nat → Nat) (H' : Heap), ClX 61 [.int .i64 (n : Int)] H (sliceN bM n) H' ∧ OM H.n H' bM rb n (fun _ _ => false) ∧ Keep (all H) H H' := by
 obtain ⟨w, G', rb', r1, r2, r3, r4, r5⟩ := none_loop hn (H0 := H) n 0 H (.slice none 0 0) (fun _ => 0) (by omega) (Keep.refl _ _) Acc.nil (by intro k hk; omega) (by intro j k hj; omega)
 rcases r3 with ⟨_, hz, _⟩ | ⟨b, rfl, q1, q2, q3, q4⟩
 ·omega
 ·refine ⟨b, rb', G', Ev.enter (fun n => f61_eq rfl n _ _) (Ev.loop r1), ⟨Nat.le_of_not_lt q1, q2, q3, fun i hi => ?_, r5⟩, r2⟩
  obtain ⟨a1, a2, a3, a4⟩ := r4 i hi
  exact ⟨a1, a2, fun he => a3 (by rw [he]; rfl), a4⟩
end Go.Eng

namespace Go.Eng
open Go Go.Proofs
open Tryd (prog)

theorem empty_loop {n : Nat} (hn : n ≤ 1000) {H0 : Heap} {bM : Nat} {rb : Nat → Nat} : ∀ (d i : Nat) (G : Heap) (f : MF), i + d = n → Keep (all H0) H0 G → OM H0.n G bM rb n f →
  ∃ (G' : Heap) (f' : MF), Ev (fun m j => f60_L0 real (AX m) m j (.int .i64 (n : Int)) (sliceN bM n) (.int .i64 (i : Int)) G) (sliceN bM n, G') ∧ Keep (all H0) H0 G' ∧ OM H0.n G' bM rb n f' ∧ ∀ a b, f' a b = if i ≤ a ∧ a < n ∧ a = b then true else f a b := by
 intro d
 induction d with
 | zero =>
  intro i G f hi kG h
  obtain rfl : i = n := by omega
  refine ⟨G, f, Ev.step (fun n m => f60_L0.eq_2 _ _ _ _ _ _ _ m) ?_, kG, h, fun a b => by rw [if_neg (by omega)]⟩
  have e : ((i : Int) < (i : Int)) = False := by simp
  simp only [ruZ, Int.reduceBEq, Int.reduceBNe, e]
  exact Ev.pure _
 | succ d ih =>
  intro i G f hi kG h
  have hin : i < n := by omega
  obtain ⟨r1, r2⟩ := h.row hin
  obtain ⟨c1, _⟩ := h.cell hin hin
  obtain ⟨G1, s1, h1, k1⟩ := h.set hin hin true
  obtain ⟨G', f', e1, e2, e3, e4⟩ := ih (i + 1) G1 _ (by omega) (kG.trans k1) h1
  refine ⟨G', f', Ev.step (fun n m => f60_L0.eq_2 _ _ _ _ _ _ _ m) ?_, e2, e3, fun a b => ?_⟩
  ·have e : ((i : Int) < (n : Int)) = True := eq_true (by omega)
   simp only [ruZ, Int.reduceBEq, Int.reduceBNe, e, r1, r2, c1, s1, idx_up (show i < 9223372036854775807 by omega)]
   exact e1
  ·rw [e4, updF]
   by_cases hc : i + 1 ≤ a ∧ a < n ∧ a = b
   ·rw [if_pos hc, if_pos ⟨by omega, hc.2⟩]
   ·rw [if_neg hc]
    by_cases h2 : a = i ∧ b = i
    ·rw [if_pos h2, if_pos ⟨by omega, by omega, by omega⟩]
    ·rw [if_neg h2, if_neg (by omega)]
theorem empty_m {n : Nat} (h0 : 0 < n) (hn : n ≤ 1000) (H : Heap) : ∃ v H', ClX 60 [.int .i64 (n : Int)] H v H' ∧ MV (Fr H.n H') H' v n (fun i j => decide (i = j)) ∧ Keep (all H) H H' := by
 obtain ⟨bM, rb, H1, c1, h1, k1⟩ := none_m h0 hn H
 obtain ⟨G', f', e1, e2, e3, e4⟩ := empty_loop hn n 0 H1 _ (by omega) k1 h1
 refine ⟨sliceN bM n, G', Ev.enter (fun n => f60_eq rfl n _ _) ?_, e3.mf.congr fun i j hi hj => ?_, e2⟩
 ·simp only [f60, ruA]
  refine Ev.callC c1 ?_
  exact Ev.loop e1
 ·rw [e4]
  by_cases h : i = j
  ·rw [if_pos ⟨by omega, hi, h⟩, decide_eq_true h]
  ·rw [if_neg fun hh => h hh.2.2, decide_eq_false h]
section
variable {n : Nat} {H0 : Heap} {bM : Nat} {rb : Nat → Nat} {va vb : Value} {fa fb : MF} (hn : n ≤ 1000) (ha : MV (all H0) H0 va n fa) (hb : MV (all H0) H0 vb n fb)
include hn ha hb
theorem either_L1 {i : Nat} (hi : i < n) : ∀ (d k : Nat) (G : Heap) (f : MF), k + d = n → Keep (all H0) H0 G → OM H0.n G bM rb n f →
  ∃ (G' : Heap) (f' : MF), Keep (all H0) H0 G' ∧ OM H0.n G' bM rb n f' ∧ (∀ a b, f' a b = if a = i ∧ k ≤ b ∧ b < n then (fa a b || fb a b) else f a b) ∧
   ∃ N, ∀ (C : CallF) (q : Nat) (R0 : Value → Value → Value → Value → Heap → Option (Value × Heap)) (m : Nat), N ≤ m → f64_L1 real C q R0 m va vb (sliceN bM n) (.int .i64 (i : Int)) (.int .i64 (k : Int)) G = R0 va vb (sliceN bM n) (.int .i64 ((i + 1 : Nat) : Int)) G' := by
 intro d
 induction d with
 | zero =>
  intro k G f hk kG h
  obtain rfl : k = n := by omega
  refine ⟨G, f, kG, h, fun a b => by rw [if_neg (by omega)], 1, fun C q R0 m hm => ?_⟩
  obtain ⟨m, rfl⟩ : ∃ j, m = j + 1 := ⟨m - 1, by omega⟩
  rw [f64_L1.eq_2]
  have e : ((k : Int) < (k : Int)) = False := by simp
  simp only [ruZ, Int.reduceBEq, Int.reduceBNe, ha.lenS, e, idx_up (show i < 9223372036854775807 by omega)]
 | succ d ih =>
  intro k G f hk kG h
  have hkn : k < n := by omega
  obtain ⟨r1, r2⟩ := h.row hi
  obtain ⟨c1, _⟩ := h.cell hi hkn
  obtain ⟨p, r, p1, p2, pa⟩ := (ha.keep kG).at hi
  obtain ⟨q, q1, q2⟩ := pa k hkn
  obtain ⟨p', r', p1', p2', pa'⟩ := (hb.keep kG).at hi
  obtain ⟨q', q1', q2'⟩ := pa' k hkn
  obtain ⟨G1, s1, h1, k1⟩ := h.set hi hkn (fa i k || fb i k)
  obtain ⟨G', f', e1, e2, e3, N, e4⟩ := ih (k + 1) G1 _ (by omega) (kG.trans k1) h1
  refine ⟨G', f', e1, e2, fun a b => ?_, N + 1, fun C qq R0 m hm => ?_⟩
  ·rw [e3, updF]
   by_cases hc : a = i ∧ k + 1 ≤ b ∧ b < n
   ·rw [if_pos hc, if_pos ⟨hc.1, by omega, hc.2.2⟩]
   ·rw [if_neg hc]
    by_cases h2 : a = i ∧ b = k
    ·rw [if_pos h2, if_pos ⟨h2.1, by omega, by omega⟩, h2.1, h2.2]
    ·rw [if_neg h2, if_neg (by omega)]
  ·obtain ⟨m, rfl⟩ : ∃ j, m = j + 1 := ⟨m - 1, by omega⟩
   rw [f64_L1.eq_2]
   have e : ((k : Int) < (n : Int)) = True := eq_true (by omega)
   have hrec := e4 C qq R0 m (by omega)
   revert s1
   cases hfa : fa i k with
   | true =>
    intro s1
    rw [hfa] at q2
    rw [Bool.true_or] at s1
    simp only [ruZ, Int.reduceBEq, Int.reduceBNe, ha.lenS, e, r1, r2, p1, p2, q1, q2, Bool.or_true, c1, s1, idx_up (show k < 9223372036854775807 by omega)]
    exact hrec
   | false =>
    intro s1
    rw [hfa] at q2
    rw [Bool.false_or] at s1
    simp only [ruZ, Int.reduceBEq, Int.reduceBNe, ha.lenS, e, r1, r2, p1, p2, q1, q2, Bool.or_true, p1', p2', q1', q2', c1, s1, idx_up (show k < 9223372036854775807 by omega)]
    exact hrec
theorem either_L0 : ∀ (d i : Nat) (G : Heap) (f : MF), i + d = n → Keep (all H0) H0 G → OM H0.n G bM rb n f →
  ∃ (G' : Heap) (f' : MF), Ev (fun m j => f64_L0 real (AX m) m j va vb (sliceN bM n) (.int .i64 (i : Int)) G) (sliceN bM n, G') ∧ Keep (all H0) H0 G' ∧ OM H0.n G' bM rb n f' ∧ ∀ a b, f' a b = if i ≤ a ∧ a < n ∧ b < n then (fa a b || fb a b) else f a b := by
 intro d
 induction d with
 | zero =>
  intro i G f hi kG h
  obtain rfl : i = n := by omega
  refine ⟨G, f, Ev.step (fun n m => f64_L0.eq_2 _ _ _ _ _ _ _ _ m) ?_, kG, h, fun a b => by rw [if_neg (by omega)]⟩
  have e : ((i : Int) < (i : Int)) = False := by simp
  simp only [ruZ, Int.reduceBEq, Int.reduceBNe, ha.lenS, e]
  exact Ev.pure _
 | succ d ih =>
  intro i G f hi kG h
  have hin : i < n := by omega
  obtain ⟨G1, f1, k1, h1, e1, N, e2⟩ := either_L1 (bM := bM) (rb := rb) hn ha hb hin n 0 G f (by omega) kG h
  obtain ⟨G', f', r1, r2, r3, r4⟩ := ih (i + 1) G1 f1 (by omega) k1 h1
  refine ⟨G', f', ?_, r2, r3, fun a b => ?_⟩
  ·obtain ⟨M, hM⟩ := r1
   refine ⟨max M N + 1, fun m j hm hj => ?_⟩
   obtain ⟨j, rfl⟩ : ∃ k, j = k + 1 := ⟨j - 1, by omega⟩
   show f64_L0 real (AX m) m (j + 1) va vb (sliceN bM n) (.int .i64 (i : Int)) G = _
   rw [f64_L0.eq_2]
   have e : ((i : Int) < (n : Int)) = True := eq_true (by omega)
   simp only [ruZ, Int.reduceBEq, Int.reduceBNe, ha.lenS, e]
   rw [show (Value.int .i64 0) = .int .i64 ((0 : Nat) : Int) from rfl, e2 _ _ _ m (by omega)]
   exact hM m j (by omega) (by omega)
  ·rw [r4, e1]
   by_cases hc : i + 1 ≤ a ∧ a < n ∧ b < n
   ·rw [if_pos hc, if_pos ⟨by omega, hc.2⟩]
   ·rw [if_neg hc]
    by_cases h2 : a = i ∧ 0 ≤ b ∧ b < n
    ·rw [if_pos h2, if_pos ⟨by omega, by omega, by omega⟩]
    ·rw [if_neg h2, if_neg (by omega)]
end
theorem either_m {n : Nat} (h0 : 0 < n) (hn : n ≤ 1000) {H : Heap} {va vb : Value} {fa fb : MF} (ha : MV (all H) H va n fa) (hb : MV (all H) H vb n fb) :
  ∃ v H', ClX 64 [va, vb] H v H' ∧ MV (Fr H.n H') H' v n (fun i j => fa i j || fb i j) ∧ Keep (all H) H H' := by
 obtain ⟨bM, rb, H1, c1, h1, k1⟩ := none_m h0 hn H
 obtain ⟨G', f', e1, e2, e3, e4⟩ := either_L0 hn ha hb n 0 H1 _ (by omega) k1 h1
 refine ⟨sliceN bM n, G', Ev.enter (fun n => f64_eq rfl n _ _ _) ?_, e3.mf.congr fun i j hi hj => by rw [e4, if_pos ⟨by omega, hi, hj⟩], e2⟩
 simp only [f64, ruZ, Int.reduceBEq, Int.reduceBNe, ha.lenS]
 refine Ev.callC c1 ?_
 exact Ev.loop e1
def behK (fa fb : MF) : Nat → Nat → Nat → Nat → Bool
 | 0, _, _, _ => false
 | d + 1, k, i, j => (fa i k && (decide (k ≤ j) && fb k j)) || behK fa fb d (k + 1) i j
def behF (n : Nat) (fa fb : MF) : MF := fun i j => behK fa fb (n - i) i i j
section
variable {n : Nat} {H0 : Heap} {bM : Nat} {rb : Nat → Nat} {va vb : Value} {fa fb : MF} (hn : n ≤ 1000) (ha : MV (all H0) H0 va n fa) (hb : MV (all H0) H0 vb n fb)
include hn ha hb
theorem behind_L2 {i k : Nat} (hi : i < n) (hk : k < n) : ∀ (d j : Nat) (G : Heap) (f : MF), j + d = n → Keep (all H0) H0 G → OM H0.n G bM rb n f →
  ∃ (G' : Heap) (f' : MF), Keep (all H0) H0 G' ∧ OM H0.n G' bM rb n f' ∧ (∀ a b, f' a b = if a = i ∧ j ≤ b ∧ b < n then (f a b || (fa i k && fb k b)) else f a b) ∧
   ∃ N, ∀ (C : CallF) (q : Nat) (R0 : Value → Value → Value → Value → Heap → Option (Value × Heap)) (R1 : Value → Value → Value → Value → Value → Heap → Option (Value × Heap)) (m : Nat), N ≤ m →
    f63_L2 real C q R0 R1 m va vb (sliceN bM n) (.int .i64 (i : Int)) (.int .i64 (k : Int)) (.int .i64 (j : Int)) G = R1 va vb (sliceN bM n) (.int .i64 (i : Int)) (.int .i64 ((k + 1 : Nat) : Int)) G' := by
 intro d
 induction d with
 | zero =>
  intro j G f hj kG h
  obtain rfl : j = n := by omega
  obtain ⟨p, r, p1, p2, pa⟩ := (ha.keep kG).at hi
  obtain ⟨q, q1, q2⟩ := pa k hk
  refine ⟨G, f, kG, h, fun a b => by rw [if_neg (by omega)], 1, fun C qq R0 R1 m hm => ?_⟩
  obtain ⟨m, rfl⟩ : ∃ j, m = j + 1 := ⟨m - 1, by omega⟩
  rw [f63_L2.eq_2]
  have e : ((j : Int) < (j : Int)) = False := by simp
  cases hfa : fa i k with
  | true =>
   rw [hfa] at q2
   simp only [ruZ, Int.reduceBEq, Int.reduceBNe, p1, p2, q1, q2, ha.lenS, e, idx_up (show k < 9223372036854775807 by omega)]
  | false =>
   rw [hfa] at q2
   simp only [ruZ, Int.reduceBEq, Int.reduceBNe, p1, p2, q1, q2, idx_up (show k < 9223372036854775807 by omega)]
 | succ d ih =>
  intro j G f hj kG h
  have hjn : j < n := by omega
  obtain ⟨p, r, p1, p2, pa⟩ := (ha.keep kG).at hi
  obtain ⟨q, q1, q2⟩ := pa k hk
  cases hfa : fa i k with
  | false =>
   rw [hfa] at q2
   refine ⟨G, f, kG, h, fun a b => ?_, 1, fun C qq R0 R1 m hm => ?_⟩
   ·split
    ·simp
    ·rfl
   ·obtain ⟨m, rfl⟩ : ∃ j, m = j + 1 := ⟨m - 1, by omega⟩
    rw [f63_L2.eq_2]
    simp only [ruZ, Int.reduceBEq, Int.reduceBNe, p1, p2, q1, q2, idx_up (show k < 9223372036854775807 by omega)]
  | true =>
   rw [hfa] at q2
   obtain ⟨r1, r2⟩ := h.row hi
   obtain ⟨c1, c2⟩ := h.cell hi hjn
   obtain ⟨p', r', p1', p2', pa'⟩ := (hb.keep kG).at hk
   obtain ⟨q', q1', q2'⟩ := pa' j hjn
   obtain ⟨G1, s1, h1, k1⟩ := h.set hi hjn (f i j || fb k j)
   obtain ⟨G', f', e1, e2, e3, N, e4⟩ := ih (j + 1) G1 _ (by omega) (kG.trans k1) h1
   refine ⟨G', f', e1, e2, fun a b => ?_, N + 1, fun C qq R0 R1 m hm => ?_⟩
   ·rw [e3, updF, hfa]
    by_cases hc : a = i ∧ j + 1 ≤ b ∧ b < n
    ·rw [if_pos hc, if_neg (show ¬ (a = i ∧ b = j) by omega), if_pos ⟨hc.1, by omega, hc.2.2⟩]
    ·rw [if_neg hc]
     by_cases h2 : a = i ∧ b = j
     ·rw [if_pos h2, if_pos ⟨h2.1, by omega, by omega⟩, h2.1, h2.2, Bool.true_and]
     ·rw [if_neg h2, if_neg (by omega)]
   ·obtain ⟨m, rfl⟩ : ∃ j, m = j + 1 := ⟨m - 1, by omega⟩
    rw [f63_L2.eq_2]
    have e : ((j : Int) < (n : Int)) = True := eq_true (by omega)
    have hrec := e4 C qq R0 R1 m (by omega)
    revert s1
    cases hfo : f i j with
    | true =>
     intro s1
     rw [hfo] at c2
     rw [Bool.true_or] at s1
     simp only [ruZ, Int.reduceBEq, Int.reduceBNe, p1, p2, q1, q2, ha.lenS, e, r1, r2, c1, c2, Bool.or_true, s1, idx_up (show j < 9223372036854775807 by omega)]
     exact hrec
    | false =>
     intro s1
     rw [hfo] at c2
     rw [Bool.false_or] at s1
     simp only [ruZ, Int.reduceBEq, Int.reduceBNe, p1, p2, q1, q2, ha.lenS, e, r1, r2, c1, c2, Bool.or_true, p1', p2', q1', q2', s1, idx_up (show j < 9223372036854775807 by omega)]
     exact hrec
theorem behind_L1 {i : Nat} (hi : i < n) : ∀ (d k : Nat) (G : Heap) (f : MF), k + d = n → Keep (all H0) H0 G → OM H0.n G bM rb n f →
  ∃ (G' : Heap) (f' : MF), Keep (all H0) H0 G' ∧ OM H0.n G' bM rb n f' ∧ (∀ a b, f' a b = if a = i ∧ b < n then (f a b || behK fa fb d k i b) else f a b) ∧
   ∃ N, ∀ (C : CallF) (q : Nat) (R0 : Value → Value → Value → Value → Heap → Option (Value × Heap)) (m : Nat), N ≤ m → N ≤ q →
    f63_L1 real C q R0 m va vb (sliceN bM n) (.int .i64 (i : Int)) (.int .i64 (k : Int)) G = R0 va vb (sliceN bM n) (.int .i64 ((i + 1 : Nat) : Int)) G' := by
 intro d
 induction d with
 | zero =>
  intro k G f hk kG h
  obtain rfl : k = n := by omega
  refine ⟨G, f, kG, h, fun a b => ?_, 1, fun C q R0 m hm _ => ?_⟩
  ·split
   ·simp [behK]
   ·rfl
  ·obtain ⟨m, rfl⟩ : ∃ j, m = j + 1 := ⟨m - 1, by omega⟩
   rw [f63_L1.eq_2]
   have e : ((k : Int) < (k : Int)) = False := by simp
   simp only [ruZ, Int.reduceBEq, Int.reduceBNe, ha.lenS, e, idx_up (show i < 9223372036854775807 by omega)]
 | succ d ih =>
  intro k G f hk kG h
  have hkn : k < n := by omega
  obtain ⟨G1, f1, k1, h1, e1, N1, e2⟩ := behind_L2 (bM := bM) (rb := rb) hn ha hb hi hkn (n - k) k G f (by omega) kG h
  obtain ⟨G', f', r1, r2, r3, N2, r4⟩ := ih (k + 1) G1 f1 (by omega) k1 h1
  refine ⟨G', f', r1, r2, fun a b => ?_, max N1 N2 + 1, fun C q R0 m hm hq => ?_⟩
  ·rw [r3, e1, behK]
   by_cases hc : a = i ∧ b < n
   ·rw [if_pos hc, if_pos hc]
    by_cases hkb : k ≤ b
    ·rw [if_pos ⟨hc.1, hkb, hc.2⟩, decide_eq_true hkb, Bool.true_and, Bool.or_assoc]
    ·rw [if_neg fun hh => hkb hh.2.1, decide_eq_false hkb, Bool.false_and, Bool.and_false, Bool.false_or]
   ·rw [if_neg hc, if_neg hc, if_neg fun hh => hc ⟨hh.1, hh.2.2⟩]
  ·obtain ⟨m, rfl⟩ : ∃ j, m = j + 1 := ⟨m - 1, by omega⟩
   rw [f63_L1.eq_2]
   have e : ((k : Int) < (n : Int)) = True := eq_true (by omega)
   simp only [ruZ, Int.reduceBEq, Int.reduceBNe, ha.lenS, e]
   rw [e2 C q R0 _ q (by omega)]
   exact r4 C q R0 m (by omega) (by omega)
theorem behind_L0 : ∀ (d i : Nat) (G : Heap) (f : MF), i + d = n → Keep (all H0) H0 G → OM H0.n G bM rb n f →
  ∃ (G' : Heap) (f' : MF), Ev (fun m j => f63_L0 real (AX m) m j va vb (sliceN bM n) (.int .i64 (i : Int)) G) (sliceN bM n, G') ∧ Keep (all H0) H0 G' ∧ OM H0.n G' bM rb n f' ∧ ∀ a b, f' a b = if i ≤ a ∧ a < n ∧ b < n then (f a b || behF n fa fb a b) else f a b := by
 intro d
 induction d with
 | zero =>
  intro i G f hi kG h
  obtain rfl : i = n := by omega
  refine ⟨G, f, Ev.step (fun n m => f63_L0.eq_2 _ _ _ _ _ _ _ _ m) ?_, kG, h, fun a b => by rw [if_neg (by omega)]⟩
  have e : ((i : Int) < (i : Int)) = False := by simp
  simp only [ruZ, Int.reduceBEq, Int.reduceBNe, ha.lenS, e]
  exact Ev.pure _
 | succ d ih =>
  intro i G f hi kG h
  have hin : i < n := by omega
  obtain ⟨G1, f1, k1, h1, e1, N, e2⟩ := behind_L1 (bM := bM) (rb := rb) hn ha hb hin (n - i) i G f (by omega) kG h
  obtain ⟨G', f', r1, r2, r3, r4⟩ := ih (i + 1) G1 f1 (by omega) k1 h1
  refine ⟨G', f', ?_, r2, r3, fun a b => ?_⟩
  ·obtain ⟨M, hM⟩ := r1
   refine ⟨max M N + 1, fun m j hm hj => ?_⟩
   obtain ⟨j, rfl⟩ : ∃ k, j = k + 1 := ⟨j - 1, by omega⟩
   show f63_L0 real (AX m) m (j + 1) va vb (sliceN bM n) (.int .i64 (i : Int)) G = _
   rw [f63_L0.eq_2]
   have e : ((i : Int) < (n : Int)) = True := eq_true (by omega)
   simp only [ruZ, Int.reduceBEq, Int.reduceBNe, ha.lenS, e]
   rw [e2 _ _ _ m (by omega) (by omega)]
   exact hM m j (by omega) (by omega)
  ·rw [r4, e1]
   by_cases hc : i + 1 ≤ a ∧ a < n ∧ b < n
   ·rw [if_pos hc, if_neg (show ¬ (a = i ∧ b < n) by omega), if_pos ⟨by omega, hc.2⟩]
   ·rw [if_neg hc]
    by_cases h2 : a = i ∧ b < n
    ·rw [if_pos h2, if_pos ⟨by omega, by omega, h2.2⟩, h2.1]; rfl
    ·rw [if_neg h2, if_neg (by omega)]
end
theorem behind_m {n : Nat} (h0 : 0 < n) (hn : n ≤ 1000) {H : Heap} {va vb : Value} {fa fb : MF} (ha : MV (all H) H va n fa) (hb : MV (all H) H vb n fb) :
  ∃ v H', ClX 63 [va, vb] H v H' ∧ MV (Fr H.n H') H' v n (behF n fa fb) ∧ Keep (all H) H H' := by
 obtain ⟨bM, rb, H1, c1, h1, k1⟩ := none_m h0 hn H
 obtain ⟨G', f', e1, e2, e3, e4⟩ := behind_L0 hn ha hb n 0 H1 _ (by omega) k1 h1
 refine ⟨sliceN bM n, G', Ev.enter (fun n => f63_eq rfl n _ _ _) ?_, e3.mf.congr fun i j hi hj => by rw [e4, if_pos ⟨by omega, hi, hj⟩, Bool.false_or], e2⟩
 simp only [f63, ruZ, Int.reduceBEq, Int.reduceBNe, ha.lenS]
 refine Ev.callC c1 ?_
 exact Ev.loop e1
def sqF (n : Nat) (f : MF) : MF := fun i j => f i j || behF n f f i j
def itF (n : Nat) : Nat → Nat → MF → MF
 | 0, _, f => f
 | k + 1, m, f => if m < 2 * n then itF n k (2 * m) (sqF n f) else f
def oftF (n : Nat) (f : MF) : MF := fun i j => decide (i = j) || itF n n 1 f i j
theorem often_loop {n : Nat} (h0 : 0 < n) (hn : n ≤ 1000) {H0 : Heap} {vo : Value} (ho : MV (all H0) H0 vo n (fun i j => decide (i = j))) : ∀ (k m : Nat) (G : Heap) (va : Value) (fa : MF), 2 * n ≤ m * 2 ^ k → 0 < m → m ≤ 4000 → Keep (all H0) H0 G → MV (all G) G va n fa →
  ∃ (v : Value) (G' : Heap), Ev (fun q j => f65_L0 real (AX q) q j va vo (.int .i64 (m : Int)) G) (v, G') ∧ Keep (all H0) H0 G' ∧ MV (Fr H0.n G') G' v n (fun i j => decide (i = j) || itF n k m fa i j) := by
 intro k
 induction k with
 | zero =>
  intro m G va fa hm h1 h4 kG ha
  rw [Nat.pow_zero, Nat.mul_one] at hm
  obtain ⟨v, G', c1, h2, k1⟩ := either_m h0 hn (ho.up kG) ha
  refine ⟨v, G', Ev.step (fun n m => f65_L0.eq_2 _ _ _ _ _ _ _ m) ?_, kG.trans (k1.mono (upA kG)), h2.mono fun q hq => ⟨Nat.le_trans kG.1 hq.1, hq.2⟩⟩
  have w : binB prog .mul 3 (.int .i64 2) (.int .i64 (n : Int)) = some (.int .i64 ((2 * n : Nat) : Int)) := by
   rw [b_mul, wrap_i64 (by omega) (by omega)]; congr 2
  have e : ((m : Int) < ((2 * n : Nat) : Int)) = False := eq_false (by omega)
  simp only [ruZ, Int.reduceBEq, Int.reduceBNe, ha.lenS, w, e]
  exact Ev.callC c1 (Ev.pure _)
 | succ k ih =>
  intro m G va fa hm h1 h4 kG ha
  have w : binB prog .mul 3 (.int .i64 2) (.int .i64 (n : Int)) = some (.int .i64 ((2 * n : Nat) : Int)) := by
   rw [b_mul, wrap_i64 (by omega) (by omega)]; congr 2
  by_cases hlt : m < 2 * n
  ·have e : ((m : Int) < ((2 * n : Nat) : Int)) = True := eq_true (by omega)
   obtain ⟨v1, G1, c1, m1, k1⟩ := behind_m h0 hn ha ha
   obtain ⟨v2, G2, c2, m2, k2⟩ := either_m h0 hn (ha.up k1) (m1.mono (frA _ _))
   have kG2 := (kG.trans (k1.mono (upA kG))).trans (k2.mono (upA (kG.trans (k1.mono (upA kG)))))
   obtain ⟨v, G', r1, r2, r3⟩ := ih (2 * m) G2 v2 (sqF n fa) (by
    rw [Nat.pow_succ] at hm
    have : 2 * m * 2 ^ k = m * (2 ^ k * 2) := by rw [Nat.mul_comm 2 m, Nat.mul_assoc, Nat.mul_comm 2 (2 ^ k)]
    omega) (by omega) (by omega) kG2 (m2.mono (frA _ _))
   refine ⟨v, G', Ev.step (fun n m => f65_L0.eq_2 _ _ _ _ _ _ _ m) ?_, r2, ?_⟩
   ·have w2 : binB prog .mul 3 (.int .i64 2) (.int .i64 (m : Int)) = some (.int .i64 ((2 * m : Nat) : Int)) := by
     rw [b_mul, wrap_i64 (by omega) (by omega)]; congr 2
    simp only [ruZ, Int.reduceBEq, Int.reduceBNe, ha.lenS, w, e]
    refine Ev.callC c1 ?_
    refine Ev.callC c2 ?_
    simp only [ruZ, Int.reduceBEq, Int.reduceBNe, w2]
    exact r1
   ·have : itF n (k + 1) m fa = itF n k (2 * m) (sqF n fa) := by rw [itF, if_pos hlt]
    rw [this]; exact r3
  ·have e : ((m : Int) < ((2 * n : Nat) : Int)) = False := eq_false (by omega)
   obtain ⟨v, G', c1, h2, k1⟩ := either_m h0 hn (ho.up kG) ha
   refine ⟨v, G', Ev.step (fun n m => f65_L0.eq_2 _ _ _ _ _ _ _ m) ?_, kG.trans (k1.mono (upA kG)), ?_⟩
   ·simp only [ruZ, Int.reduceBEq, Int.reduceBNe, ha.lenS, w, e]
    exact Ev.callC c1 (Ev.pure _)
   ·have : itF n (k + 1) m fa = fa := by rw [itF, if_neg hlt]
    rw [this]; exact h2.mono fun q hq => ⟨Nat.le_trans kG.1 hq.1, hq.2⟩
theorem two_pow_ge : ∀ n : Nat, 0 < n → 2 * n ≤ 1 * 2 ^ n
 | 0, h => by omega
 | 1, _ => by decide
 | n + 2, _ => by
  have := two_pow_ge (n + 1) (by omega)
  rw [Nat.pow_succ]; omega
theorem often_m {n : Nat} (h0 : 0 < n) (hn : n ≤ 1000) {H : Heap} {va : Value} {fa : MF} (ha : MV (all H) H va n fa) : ∃ v H', ClX 65 [va] H v H' ∧ MV (Fr H.n H') H' v n (oftF n fa) ∧ Keep (all H) H H' := by
 obtain ⟨vo, H1, c1, ho, k1⟩ := empty_m h0 hn H
 obtain ⟨v, G', r1, r2, r3⟩ := often_loop h0 hn (ho.mono (frA _ _)) n 1 H1 va fa (two_pow_ge n h0) (by omega) (by omega) (Keep.refl _ _) (ha.up k1)
 refine ⟨v, G', Ev.enter (fun n => f65_eq rfl n _ _) ?_, r3.mono fun q hq => ⟨Nat.le_trans k1.1 hq.1, hq.2⟩, k1.trans (r2.mono (upA k1))⟩
 simp only [f65, ruZ, Int.reduceBEq, Int.reduceBNe, ha.lenS]
 refine Ev.callC c1 ?_
 exact Ev.loop r1
end Go.Eng
