import Derived.Test.YtimhmmeoliagjaaDoorZG
set_option linter.unusedVariables false
set_option linter.unusedSimpArgs false
set_option linter.unusedSectionVars false
set_option maxRecDepth 100000
namespace Go.Eng
open Go Go.Proofs

abbrev MF : Type := Nat → Nat → Bool
def RwC (n : Nat) (g : Nat → Bool) : List Value := (List.range n).map fun j => .bool (g j)
theorem RwC_len (n : Nat) (g : Nat → Bool) : (RwC n g).length = n := by simp [RwC]
theorem RwC_at {n j : Nat} {g : Nat → Bool} (h : j < n) : (RwC n g)[j]? = some (.bool (g j)) := by simp [RwC, h]
theorem RwC_set {n j : Nat} {g : Nat → Bool} {b : Bool} (h : j < n) : (RwC n g).set j (.bool b) = RwC n (fun k => if k = j then b else g k) := by
  apply List.ext_getElem?
  intro i
  rw [List.getElem?_set]
  by_cases hi : i < n
  · rw [RwC_at hi, RwC_at hi]
    by_cases he : j = i
    · subst he
      rw [if_pos rfl, if_pos (by rw [RwC_len]; exact hi), if_pos rfl]
    · rw [if_neg he, if_neg fun h => he h.symm]
  · rw [List.getElem?_eq_none (by rw [RwC_len]; omega), List.getElem?_eq_none (by rw [RwC_len]; omega)]
    split
    · rw [if_neg (by rw [RwC_len]; omega)]
    · rfl
theorem RwC_congr {n : Nat} {g h : Nat → Bool} (e : ∀ j, j < n → g j = h j) : RwC n g = RwC n h := by
  unfold RwC
  apply List.map_congr_left
  intro j hj
  rw [e j (List.mem_range.1 hj)]
def MV (R : Nat → Prop) (H : Heap) (v : Value) (n : Nat) (f : MF) : Prop := ∃ rows : Nat → Value, Sl R H 1 v n ((List.range n).map rows) ∧ ∀ i, i < n → Sl R H 1 (rows i) n (RwC n (f i))
section
variable {R R' : Nat → Prop} {H H' : Heap} {v : Value} {n : Nat} {f g : MF}
theorem MV.keep (h : MV R H v n f) (k : Keep R H H') : MV R H' v n f := by
  obtain ⟨rows, h1, h2⟩ := h
  exact ⟨rows, h1.keep k, fun i hi => (h2 i hi).keep k⟩
theorem MV.mono (h : MV R H v n f) (hR : ∀ b, R b → R' b) : MV R' H v n f := by
  obtain ⟨rows, h1, h2⟩ := h
  exact ⟨rows, h1.mono hR, fun i hi => (h2 i hi).mono hR⟩
theorem MV.up (h : MV (all H) H v n f) (k : Keep (all H) H H') : MV (all H') H' v n f := (h.keep k).mono (upA k)
theorem MV.congr (h : MV R H v n f) (e : ∀ i j, i < n → j < n → f i j = g i j) : MV R H v n g := by
  obtain ⟨rows, h1, h2⟩ := h
  exact ⟨rows, h1, fun i hi => by rw [← RwC_congr (e i · hi)]; exact h2 i hi⟩
theorem MV.lenS (h : MV R H v n f) : lenS v = some (.int .i64 (n : Int)) := by
  obtain ⟨rows, h1, _⟩ := h
  exact h1.lenS
theorem MV.at (h : MV R H v n f) {i : Nat} (hi : i < n) : ∃ p r, iAddrS 1 v (.int .i64 (i : Int)) = some p ∧ ldC p H = some (r, H) ∧ ∀ j, j < n → ∃ q, iAddrS 1 r (.int .i64 (j : Int)) = some q ∧ ldC q H = some (.bool (f i j), H) := by
  obtain ⟨rows, h1, h2⟩ := h
  obtain ⟨p, p1, p2⟩ := h1.at1 (i := i) (x := rows i) (by simp [hi])
  exact ⟨p, rows i, p1, p2, fun j hj => (h2 i hi).at1 (RwC_at hj)⟩
end
def sliceN (b n : Nat) : Value := .slice (some ⟨b, 0, none⟩) n n
structure OM (lo : Nat) (H : Heap) (bM : Nat) (rb : Nat → Nat) (n : Nat) (f : MF) : Prop where
  l : lo ≤ bM
  u : bM < H.n
  g : H.get bM = some ⟨(List.range n).map fun i => sliceN (rb i) n, 1, true⟩
  r : ∀ i, i < n → lo ≤ rb i ∧ rb i < H.n ∧ rb i ≠ bM ∧ H.get (rb i) = some ⟨RwC n (f i), 1, true⟩
  d : ∀ i j, i < n → j < n → i ≠ j → rb i ≠ rb j
def updF (f : MF) (i j : Nat) (b : Bool) : MF := fun i' j' => if i' = i ∧ j' = j then b else f i' j'
section
variable {lo : Nat} {H H' H0 : Heap} {bM : Nat} {rb : Nat → Nat} {n : Nat} {f g : MF}
theorem OM.congr (h : OM lo H bM rb n f) (e : ∀ i j, i < n → j < n → f i j = g i j) : OM lo H bM rb n g :=
  ⟨h.l, h.u, h.g, fun i hi => by
    obtain ⟨a, b, c, d⟩ := h.r i hi
    exact ⟨a, b, c, by rw [d, RwC_congr (e i · hi)]⟩, h.d⟩
theorem OM.keep (h : OM lo H bM rb n f) (k : Keep (all H) H H') : OM lo H' bM rb n f :=
  ⟨h.l, Nat.lt_of_lt_of_le h.u k.1, (k.2 _ h.u).trans h.g, fun i hi => by
    obtain ⟨a, b, c, d⟩ := h.r i hi
    exact ⟨a, Nat.lt_of_lt_of_le b k.1, c, (k.2 _ b).trans d⟩, h.d⟩
def Fr (lo : Nat) (H : Heap) : Nat → Prop := fun q => lo ≤ q ∧ q < H.n
theorem frA (lo : Nat) (H : Heap) : ∀ q, Fr lo H q → all H q := fun q h => h.2
theorem OM.mf (h : OM lo H bM rb n f) : MV (Fr lo H) H (sliceN bM n) n f := by
  refine ⟨fun i => sliceN (rb i) n, .inr (.inr ⟨bM, 0, none, n, _, rfl, ⟨h.l, h.u⟩, h.g, by simp, Nat.le_refl _, ?_⟩), fun i hi => ?_⟩
  · simp only [cut, List.drop_zero]
    rw [List.take_of_length_le (by simp)]
  · obtain ⟨a, b, c, d⟩ := h.r i hi
    refine .inr (.inr ⟨rb i, 0, none, n, _, rfl, ⟨a, b⟩, d, by simp [RwC_len], Nat.le_refl _, ?_⟩)
    simp only [cut, List.drop_zero]
    rw [List.take_of_length_le (by simp [RwC_len])]
theorem OM.row (h : OM lo H bM rb n f) {i : Nat} (hi : i < n) : iAddrS 1 (sliceN bM n) (.int .i64 (i : Int)) = some (ptr bM i) ∧ ldC (ptr bM i) H = some (sliceN (rb i) n, H) :=
  ⟨iS hi, ldG h.g (by simp [hi])⟩
theorem OM.cell (h : OM lo H bM rb n f) {i j : Nat} (hi : i < n) (hj : j < n) : iAddrS 1 (sliceN (rb i) n) (.int .i64 (j : Int)) = some (ptr (rb i) j) ∧ ldC (ptr (rb i) j) H = some (.bool (f i j), H) :=
  ⟨iS hj, ldG (h.r i hi).2.2.2 (RwC_at hj)⟩
theorem OM.set (h : OM lo H bM rb n f) {i j : Nat} (hi : i < n) (hj : j < n) (b : Bool) : ∃ H', stV 1 (ptr (rb i) j) (.bool b) H = some (undef, H') ∧ OM lo H' bM rb n (updF f i j b) ∧ Keep (fun q => q < lo) H H' := by
  obtain ⟨a1, a2, a3, a4⟩ := h.r i hi
  refine ⟨H.upd (rb i) (some ⟨RwC n (fun k => if k = j then b else f i k), 1, true⟩), ?_, ?_, Keep.upd fun hb => by omega⟩
  · rw [stV1_box a4 (by rw [RwC_len]; exact hj) rfl rfl, RwC_set hj]
  · refine ⟨h.l, h.u, (upd_ne (Ne.symm a3)).trans h.g, fun k hk => ?_, h.d⟩
    obtain ⟨b1, b2, b3, b4⟩ := h.r k hk
    refine ⟨b1, b2, b3, ?_⟩
    by_cases he : k = i
    · subst he
      rw [upd_self]
      congr 2
      exact RwC_congr fun j' _ => by
        unfold updF
        by_cases hj' : j' = j
        · rw [if_pos hj', if_pos ⟨rfl, hj'⟩]
        · rw [if_neg hj', if_neg fun h => hj' h.2]
    · rw [upd_ne (h.d k i hk hi he), b4]
      congr 2
      exact RwC_congr fun j' _ => by
        unfold updF
        rw [if_neg fun h => he h.1]
end
theorem rwc_false (n : Nat) : RwC n (fun _ => false) = MB 0 n none2 := rfl
theorem none_loop {n : Nat} (hn : n ≤ 1000) {H0 : Heap} : ∀ (d i : Nat) (G : Heap) (v : Value) (rb : Nat → Nat), i + d = n → Keep (all H0) H0 G → Acc (all H0) G 1 v i ((List.range i).map fun k => sliceN (rb k) n) →
    (∀ k, k < i → H0.n ≤ rb k ∧ rb k < G.n ∧ blkOf v ≠ some (rb k) ∧ G.get (rb k) = some ⟨RwC n (fun _ => false), 1, true⟩) → (∀ j k, j < i → k < i → j ≠ k → rb j ≠ rb k) →
    ∃ (w : Value) (G' : Heap) (rb' : Nat → Nat), Ev (fun m j => f61_L0 real (AX m) m j (.int .i64 (n : Int)) v (.int .i64 (i : Int)) G) (w, G') ∧ Keep (all H0) H0 G' ∧ Acc (all H0) G' 1 w n ((List.range n).map fun k => sliceN (rb' k) n) ∧
      (∀ k, k < n → H0.n ≤ rb' k ∧ rb' k < G'.n ∧ blkOf w ≠ some (rb' k) ∧ G'.get (rb' k) = some ⟨RwC n (fun _ => false), 1, true⟩) ∧ (∀ j k, j < n → k < n → j ≠ k → rb' j ≠ rb' k) := by
  intro d
  induction d with
  | zero =>
    intro i G v rb hi kG hA hr hd
    obtain rfl : i = n := by omega
    refine ⟨v, G, rb, Ev.step (fun n m => f61_L0.eq_2 _ _ _ _ _ _ _ m) ?_, kG, hA, hr, hd⟩
    have e : ((i : Int) < (i : Int)) = False := by simp
    simp only [ruA, ruB, ruC, ruE, ruD, lenStr, Int.reduceBEq, Int.reduceBNe, e]
    exact Ev.pure _
  | succ d ih =>
    intro i G v rb hi kG hA hr hd
    obtain ⟨G1, hG1⟩ : ∃ G1, G.push ⟨MB 0 n none2, 1, true⟩ = G1 := ⟨_, rfl⟩
    obtain ⟨G2, hG2⟩ : ∃ G2, G1.push ⟨[sliceN G.n n], 1, true⟩ = G2 := ⟨_, rfl⟩
    have n1 : G1.n = G.n + 1 := by rw [← hG1]; rfl
    have n2 : G2.n = G.n + 2 := by rw [← hG2, push_n, n1]
    have k1 : Keep (all G) G G1 := by rw [← hG1]; exact push_keep
    have k2 : Keep (all G1) G1 G2 := by rw [← hG2]; exact push_keep
    have k12 := k1.trans (k2.mono (upA k1))
    have hgn := kG.1
    have g2 : G2.get G.n = some ⟨MB 0 n none2, 1, true⟩ := by rw [k2.2 _ (show G.n < G1.n by omega), ← hG1]; exact push_self
    have hadd : addend 1 (.slice (some ⟨G1.n, 0, none⟩) 1 1) G2 = some (1, [sliceN G.n n]) := by rw [← hG2]; exact addend_push rfl
    have hmb : mostBytes = 140737488355328 := rfl
    obtain ⟨v', G3, a1, a2, a3, a4, a5, _⟩ := (hA.keep k12).appQ (by_ := 24) (by omega) hadd rfl (by omega)
    have hvG : ∀ b, blkOf v = some b → b < G.n := fun b hb => by
      rcases hA with ⟨rfl, _⟩ | ⟨c, rfl, _, hc, _⟩
      · simp [blkOf] at hb
      · simp only [blkOf, Option.some.injEq] at hb
        omega
    have hn3 := a4.1
    have hlist : ((List.range i).map fun k => sliceN (rb k) n) ++ [sliceN G.n n] = (List.range (i + 1)).map fun k => sliceN (if k = i then G.n else rb k) n := by
      rw [List.range_succ, List.map_append]
      congr 1
      · apply List.map_congr_left
        intro k hk
        rw [if_neg (by have := List.mem_range.1 hk; omega)]
      · simp
    rw [hlist] at a2
    obtain ⟨w, G', rb', r1, r2, r3, r4, r5⟩ := ih (i + 1) G3 v' (fun k => if k = i then G.n else rb k) (by omega) ((kG.trans (k12.mono (upA kG))).trans a3) a2 (fun k hk => by
      by_cases he : k = i
      · simp only [if_pos he]
        refine ⟨by omega, by omega, fun hb => ?_, ?_⟩
        · rcases a5 _ hb with h | h
          · have := hvG _ h; omega
          · omega
        · rw [a4.2 _ ⟨by omega, fun hb => by have := hvG _ hb; omega⟩, g2, rwc_false]
      · simp only [if_neg he]
        obtain ⟨b1, b2, b3, b4⟩ := hr k (by omega)
        refine ⟨b1, by omega, fun hb => ?_, ?_⟩
        · rcases a5 _ hb with h | h
          · exact b3 h
          · omega
        · rw [a4.2 _ ⟨by omega, b3⟩, k12.2 _ b2, b4]) (fun j k hj hk hjk => by
      by_cases h1 : j = i
      · by_cases h2 : k = i
        · omega
        · simp only [if_pos h1, if_neg h2]
          have := (hr k (by omega)).2.1; omega
      · by_cases h2 : k = i
        · simp only [if_pos h2, if_neg h1]
          have := (hr j (by omega)).2.1; omega
        · simp only [if_neg h1, if_neg h2]
          exact hd j k (by omega) (by omega) hjk)
    refine ⟨w, G', rb', Ev.step (fun n m => f61_L0.eq_2 _ _ _ _ _ _ _ m) ?_, r2, r3, r4, r5⟩
    have e : ((i : Int) < (n : Int)) = True := eq_true (by omega)
    have m1 : mkS 1 1 [.bool false] (.int .i64 (n : Int)) (.int .i64 (n : Int)) G = some (sliceN G.n n, G1) := by rw [← hG1]; exact mkB_ok 0 (by omega)
    have b1 : bldS 1 1 [(.slice none 0 0)] [(0, 1, sliceN G.n n)] G1 = some (.slice (some ⟨G1.n, 0, none⟩) 1 1, G2) := by rw [← hG2]; exact bld1 rfl rfl
    simp only [ruA, ruB, ruC, ruE, ruD, lenStr, Int.reduceBEq, Int.reduceBNe, e, m1, b1, a1, idx_up (show i < 9223372036854775807 by omega)]
    exact r1
theorem none_m {n : Nat} (h0 : 0 < n) (hn : n ≤ 1000) (H : Heap) : ∃ (bM : Nat) (rb : Nat → Nat) (H' : Heap), ClX 61 [.int .i64 (n : Int)] H (sliceN bM n) H' ∧ OM H.n H' bM rb n (fun _ _ => false) ∧ Keep (all H) H H' := by
  obtain ⟨w, G', rb', r1, r2, r3, r4, r5⟩ := none_loop hn (H0 := H) n 0 H (.slice none 0 0) (fun _ => 0) (by omega) (Keep.refl _ _) Acc.nil (by intro k hk; omega) (by intro j k hj; omega)
  rcases r3 with ⟨_, hz, _⟩ | ⟨b, rfl, q1, q2, q3, q4⟩
  · omega
  · refine ⟨b, rb', G', Ev.enter (fun n => f61_eq rfl n _ _) (Ev.loop r1), ⟨Nat.le_of_not_lt q1, q2, q3, fun i hi => ?_, r5⟩, r2⟩
    obtain ⟨a1, a2, a3, a4⟩ := r4 i hi
    exact ⟨a1, a2, fun he => a3 (by rw [he]; rfl), a4⟩
end Go.Eng
