import Derived.Test.YtimhmmeoliagjaaDoorYC
import Derived.Deep.QuietTactic
import Derived.BigQuiet
set_option linter.unusedVariables false
set_option linter.unusedSimpArgs false
set_option maxRecDepth 100000
namespace Go.Eng
def runE (l : List Nat) : Nat → Nat → Nat
  | 0, k => k
  | f + 1, k => if k + 1 < l.length ∧ l.getD (k + 1) 0 = (l.getD k 0 + 1) % 256 then runE l f (k + 1) else k
theorem runE_le (l : List Nat) : ∀ (f k : Nat), k ≤ runE l f k
  | 0, k => Nat.le_refl _
  | f + 1, k => by
    rw [runE]; split
    · have := runE_le l f (k + 1); omega
    · exact Nat.le_refl _
theorem runE_more (l : List Nat) : ∀ (f g k : Nat), l.length ≤ f + k → l.length ≤ g + k → runE l f k = runE l g k
  | 0, 0, k, _, _ => rfl
  | 0, g + 1, k, h, _ => by rw [runE, runE, if_neg (by omega)]
  | f + 1, 0, k, _, h => by rw [runE, runE, if_neg (by omega)]
  | f + 1, g + 1, k, hf, hg => by rw [runE, runE, runE_more l f g (k + 1) (by omega) (by omega)]
def listB (tx : Nat → List UInt8) (l : List Nat) : Nat → Nat → List UInt8
  | 0, _ => []
  | f + 1, i =>
    if i < l.length then
      if 2 ≤ runE l l.length i - i then tx (l.getD i 0) ++ 45 :: (tx (l.getD (runE l l.length i) 0) ++ listB tx l f (runE l l.length i + 1))
      else tx (l.getD i 0) ++ listB tx l f (i + 1)
    else []
theorem listB_more (tx : Nat → List UInt8) (l : List Nat) : ∀ (f g i : Nat), l.length < f + i → l.length < g + i → listB tx l f i = listB tx l g i
  | 0, 0, i, _, _ => rfl
  | 0, g + 1, i, h, _ => by rw [listB, listB, if_neg (by omega)]
  | f + 1, 0, i, _, h => by rw [listB, listB, if_neg (by omega)]
  | f + 1, g + 1, i, hf, hg => by
    have := runE_le l l.length i
    rw [listB, listB, listB_more tx l f g (i + 1) (by omega) (by omega), listB_more tx l f g (runE l l.length i + 1) (by omega) (by omega)]
theorem listB_len (tx : Nat → List UInt8) (l : List Nat) (htx : ∀ c, (tx c).length ≤ 4) : ∀ (f i : Nat), (listB tx l f i).length ≤ 9 * f
  | 0, i => by simp [listB]
  | f + 1, i => by
    have h1 := htx (l.getD i 0)
    have h2 := htx (l.getD (runE l l.length i) 0)
    have h3 := listB_len tx l htx f (runE l l.length i + 1)
    have h4 := listB_len tx l htx f (i + 1)
    rw [listB]
    split
    · split
      · simp only [List.length_append, List.length_cons]; omega
      · simp only [List.length_append]; omega
    · simp
end Go.Eng
namespace Go.Proofs
open Go.RowKit Go.Shelf Go.Eng
attribute [local go_sem] Oper.semAt_some
theorem Bd.drewN {B b : Nat} {l : List UInt8} {w : World} (h : Bd B b l w) (n : Nat) : Bd B b l (w.drewN n) := h
theorem But1.drewN {B b : Nat} {w w' : World} (h : But1 B b w w') (n : Nat) : But1 B b w (w'.drewN n) := ⟨h.size, h.same, h.os, h.tape, h.output⟩

set_option maxHeartbeats 600000 in
theorem listText_calls (s : Nat) (w : World) (hT : TabAt 2 Lib.deBruijn64tab w) (tx : Nat → List UInt8) (htl : ∀ c, (tx c).length ≤ 4) (htp : ∀ c, tx c ≠ [])
    (hB : ∀ (c : Nat) (W : World), c < 256 → Below w.heap.size w W → Calls Tryd.prog 77 #[.int .u8 (c : Int), .string ⟨#[91, 93, 92, 94, 45, 47]⟩] W fun e w' => e = .returned (.string ⟨(tx c).toArray⟩) ∧ Below W.heap.size W w') :
    Calls Tryd.prog 76 #[.agg (setW s)] w fun e w' => e = .returned (.string ⟨(listB tx (setL s) 257 0).toArray⟩) ∧ Below w.heap.size w w' := by
  have h2 : 2 < w.heap.size := by
    have := hT 0 (by decide)
    rcases Nat.lt_or_ge 2 w.heap.size with h | h
    · exact h
    · simp [World.cell?, Array.getElem?_eq_none h] at this
  obtain ⟨l, hl⟩ : ∃ l, setL s = l := ⟨_, rfl⟩
  rw [hl]
  go_enter Tryd.func76, Tryd.ntmps76
  unfold setW
  go_wp2_with (go_at_call 87; refine (allOf_calls _ _ _ _ _).mono ?_; rintro e w1 ⟨rfl, rfl⟩)
  obtain ⟨W1, hW1⟩ : ∃ W1, ((w.alloc (.cells (setW s) 56)).alloc (.cells #[.pointer none, .slice none 0 0] 91)).alloc (.cells (setW s) 56) = W1 := ⟨_, rfl⟩
  have hB1 : Below w.heap.size w W1 := by rw [← hW1]; exact (((Below.refl _ w).alloc (Nat.le_refl _) _).alloc (by simp) _).alloc (by simp; omega) _
  have hs1 : W1.heap.size = w.heap.size + 3 := by rw [← hW1]; simp
  have hb1 : W1.heap[w.heap.size + 1]? = some (.cells #[.pointer none, .slice none 0 0] 91 (0, 0)) := by
    rw [← hW1]
    refine (Below.heap_alloc _ _ _ (by simp)).trans ?_
    have := World.alloc_heap_new (w.alloc (.cells (setW s) 56)) (.cells #[.pointer none, .slice none 0 0] 91)
    rwa [World.size_alloc] at this
  have hset : ∀ j, j < 4 → W1.cell? ⟨w.heap.size + 1 + 1, 0 + j, none⟩ = (setW s)[j]? := fun j _ => by
    have h := World.alloc_heap_new ((w.alloc (.cells (setW s) 56)).alloc (.cells #[.pointer none, .slice none 0 0] 91)) (.cells (setW s) 56)
    rw [World.size_alloc, World.size_alloc, hW1] at h
    rw [Nat.zero_add]
    exact Go.Lib.cell_of_heap h j
  rw [show (.cells #[.int .u64 (wrd s 0 : Int), .int .u64 (wrd s 1 : Int), .int .u64 (wrd s 2 : Int), .int .u64 (wrd s 3 : Int)] 56 : Obj) = .cells (setW s) 56 from rfl, hW1]
  refine (collect_calls s _ 0 W1 hset (tabAt_below hT hB1 h2)).mono ?_
  rintro e W2 ⟨v, rfl, hrow, hnil, hB2⟩
  have hb2 : W2.heap[w.heap.size + 1]? = some (.cells #[.pointer none, .slice none 0 0] 91 (0, 0)) := (hB2.block _ (by omega)).trans hb1
  have hl256 : l.length ≤ 256 := by rw [← hl]; exact setL_len s
  have hlb : ∀ c ∈ l, c < 256 := fun c hc => by rw [← hl, setL_mem] at hc; exact hc.1
  rw [hl] at hrow hnil
  obtain ⟨B, hBd⟩ : ∃ B, W2.heap.size = B := ⟨_, rfl⟩
  obtain ⟨b, hbd⟩ : ∃ b, w.heap.size + 1 = b := ⟨_, rfl⟩
  have hsz2 := hB2.size
  have hb0 : Bd B b [] W2 := ⟨by omega, by omega, _, _, .inl rfl, by rw [← hbd]; exact hb2, World.ownsRow_nil _ _ _ _, fun _ => rfl⟩
  obtain ⟨ad, cap, hv⟩ : ∃ ad cap, v = .slice ad l.length cap := by
    rcases hrow.2 with ⟨hv, hz⟩ | ⟨g, cap, cur, hv, _⟩
    · exact ⟨none, 0, by rw [hv, hz]⟩
    · exact ⟨_, _, hv⟩
  obtain ⟨f, hf⟩ : ∃ f : Nat → Nat, ∀ j, j < l.length → l[j]? = some (f j) := ⟨fun j => l.getD j 0, fun j hj => by show _ = some (l.getD j 0); rw [List.getD_eq_getElem?_getD, List.getElem?_eq_getElem hj]; rfl⟩
  have hfg : ∀ j, j < l.length → l.getD j 0 = f j := fun j hj => by rw [List.getD_eq_getElem?_getD, hf j hj]; rfl
  have hf256 : ∀ j, j < l.length → f j < 256 := fun j hj => hlb _ (List.mem_of_getElem? (hf j hj))
  have hcell : ∀ i, i < l.length → ∃ g, ad = some ⟨g, 0, none⟩ ∧ ∀ wr, But1 B b W2 wr → ∀ j, j < l.length → wr.cell? ⟨g, j, none⟩ = some (.int .u8 ((f j : Nat) : Int)) := by
    intro i hi
    rcases hrow.2 with ⟨h1, hz⟩ | ⟨g, cap', cur, h1, h2, h3, h4⟩
    · omega
    · rw [hv] at h1
      injection h1 with e1 e2 e3
      refine ⟨g, e1, fun wr hk j hj => ?_⟩
      have hrow' := hrow
      rw [hv, e1, e3] at hrow'
      have hc := hrow'.cells (g := g) rfl j (.int .u8 ((f j : Nat) : Int)) (by rw [List.getElem?_map, hf j hj]; rfl)
      have hadd : (⟨g, 0, none⟩ : Addr).add j = ⟨g, j, none⟩ := by unfold Addr.add; split <;> simp_all
      rw [hadd] at hc
      rw [← hc]
      have hgl := (Array.getElem?_eq_some_iff.1 h3).1
      have := hk.same g (by omega) (by omega)
      simp only [World.cell?, this]
  subst hv
  have hBel : ∀ wr, But1 B b W2 wr → Below w.heap.size w wr := fun wr hk => (hB1.trans (hB2.mono (by omega))).trans ((hk.below (by omega)).mono (by omega))
  subst hbd
  go_wp2
  go_loopw [5] (fun p wr => ∃ (i : Nat) (acc : List UInt8), p = .int .i64 (i : Int) ∧ i ≤ l.length ∧ Bd B (w.heap.size + 1) acc wr ∧ But1 B (w.heap.size + 1) W2 wr ∧ acc ++ listB tx l (257 - i) i = listB tx l 257 0)
    (fun p _ => 257 - (intOf p).toNat)
  case atStart =>
    exact ⟨0, [], rfl, by omega, hb0, But1.refl _ _ _, rfl⟩
  case round =>
    obtain ⟨i, acc, rfl, hi, hbd', hk, hacc⟩ := hrel
    by_cases hil : i < l.length
    · obtain ⟨g, rfl, hc⟩ := hcell i hil
      go_wp2
      go_loopw [6] (fun p wr' => ∃ k : Nat, p = .int .i64 (k : Int) ∧ i ≤ k ∧ k < l.length ∧ runE l l.length k = runE l l.length i ∧ Bd B (w.heap.size + 1) acc wr' ∧ But1 B (w.heap.size + 1) W2 wr')
        (fun p _ => 257 - (intOf p).toNat)
      case atStart =>
        exact ⟨i, rfl, by omega, hil, rfl, hbd', hk⟩
      case round =>
        obtain ⟨k, rfl, hik, hkl, hrun, hbk, hkk⟩ := hrel
        have ci := hc wr hkk i hil
        have ck := hc wr hkk k hkl
        have hla : acc.length ≤ 3000 := by
          have h1 := listB_len tx l htl 257 0
          rw [← hacc] at h1
          simp only [List.length_append] at h1; omega
        have hstep : runE l l.length k = if k + 1 < l.length ∧ l.getD (k + 1) 0 = (l.getD k 0 + 1) % 256 then runE l l.length (k + 1) else k := by
          obtain ⟨m, hm⟩ : ∃ m, l.length = m + 1 := ⟨l.length - 1, by omega⟩
          conv => lhs; rw [hm, runE]
          rw [runE_more l m l.length (k + 1) (by omega) (by omega)]
        by_cases hk1 : k + 1 < l.length
        · have ck1 := hc wr hkk (k + 1) hk1
          have g1 : (k : Int) + 1 < (l.length : Int) := by omega
          have g2 : (k : Int) < (l.length : Int) := by omega
          by_cases heq : (((f (k + 1) : Nat) : Int) == (((f k : Nat) : Int) + 1) % 256) = true
          · have hrun' : runE l l.length (k + 1) = runE l l.length i := by
              have hcnd : l.getD (k + 1) 0 = (l.getD k 0 + 1) % 256 := by
                rw [hfg _ hk1, hfg _ hkl]
                have := eq_of_beq heq
                omega
              rw [← hrun, hstep, if_pos ⟨hk1, hcnd⟩]
            clear hstep
            go_wp2
            go_quiet (fail)
            go_wp2
            exact ⟨⟨k + 1, by simp, by omega, hk1, hrun', hbk.drewN nq, hkk.drewN nq⟩, by simp [intOf]; omega⟩
          · have hki : runE l l.length i = k := by
              have hcnd : ¬ l.getD (k + 1) 0 = (l.getD k 0 + 1) % 256 := by
                rw [hfg _ hk1, hfg _ hkl]
                intro h
                apply heq
                rw [beq_iff_eq]
                omega
              rw [← hrun, hstep, if_neg fun h => hcnd h.2]
            clear hstep
            have heq' : (((f (k + 1) : Nat) : Int) == (((f k : Nat) : Int) + 1) % 256) = false := by simpa using heq
            go_wp2
            go_quiet (fail)
            go_wp2_with (go_at_call 77; refine (hB (f i) (wr.drewN nq) (hf256 i hil) (hBel _ (hkk.drewN nq))).mono ?_; rintro e w1 ⟨rfl, hB1'⟩)
            have hbd1 : Bd B (w.heap.size + 1) acc w1 := (hbk.drewN nq).keep hB1'
            have hk1' : But1 B (w.heap.size + 1) W2 w1 := (hkk.drewN nq).trans (But1.of_below (hB1'.mono hbk.2.1))
            refine (qWrite2 B (w.heap.size + 1) acc (tx (f i)) w1 hbd1 (by have := htl (f i); omega)).mono ?_
            rintro e w2 ⟨⟨v2, rfl⟩, hbd2, hk2⟩
            have hk12 := hk1'.trans hk2
            by_cases h2k : 2 ≤ k - i
            · have g3 : (2 : Int) ≤ (k : Int) - (i : Int) := by omega
              have ck2 := hc w2 hk12 k hkl
              have hov : ¬ 9223372036854775807 < 1 + (tx (f k)).length := by have := htl (f k); omega
              go_wp2_with (go_at_call 77; refine (hB (f k) w2 (hf256 k hkl) (hBel _ hk12)).mono ?_; rintro e w3 ⟨rfl, hB3'⟩)
              have e45 : (ByteArray.mk #[45] ++ ByteArray.mk (tx (f k)).toArray) = ByteArray.mk (45 :: tx (f k)).toArray := ByteArray.mk_append_mk [45] (tx (f k))
              rw [e45]
              have hbd3 := hbd2.keep hB3'
              have hk13 := hk12.trans (But1.of_below (hB3'.mono hbd2.2.1))
              refine (qWrite2 B (w.heap.size + 1) (acc ++ tx (f i)) (45 :: tx (f k)) w3 hbd3 (by have := htl (f i); have := htl (f k); simp only [List.length_append, List.length_cons]; omega)).mono ?_
              rintro e w4 ⟨⟨v4, rfl⟩, hbd4, hk4⟩
              have hk14 := hk13.trans hk4
              go_wp2
              refine ⟨⟨k + 1, _, by simp, by omega, hbd4, hk14, ?_⟩, by simp [intOf]; omega⟩
              rw [← hacc, show 257 - i = (256 - i) + 1 by omega, listB, if_pos hil, hki, if_pos h2k, hfg i hil, hfg k hkl, listB_more tx l (256 - i) (257 - (k + 1)) (k + 1) (by omega) (by omega)]
              simp
            · have g3 : decide ((k : Int) - (i : Int) ≥ 2) = false := by simp; omega
              go_wp2
              refine ⟨⟨i + 1, _, by simp, by omega, hbd2, hk12, ?_⟩, by simp [intOf]; omega⟩
              rw [← hacc, show 257 - i = (256 - i) + 1 by omega, listB, if_pos hil, hki, if_neg h2k, hfg i hil, listB_more tx l (256 - i) (257 - (i + 1)) (i + 1) (by omega) (by omega)]
              simp
        · have g1 : decide ((k : Int) + 1 < (l.length : Int)) = false := by simp; omega
          have hki : runE l l.length i = k := by
            rw [← hrun, hstep, if_neg fun h => hk1 h.1]
          clear hstep
          go_wp2
          go_quiet (fail)
          go_wp2_with (go_at_call 77; refine (hB (f i) (wr.drewN nq) (hf256 i hil) (hBel _ (hkk.drewN nq))).mono ?_; rintro e w1 ⟨rfl, hB1'⟩)
          have hbd1 : Bd B (w.heap.size + 1) acc w1 := (hbk.drewN nq).keep hB1'
          have hk1' : But1 B (w.heap.size + 1) W2 w1 := (hkk.drewN nq).trans (But1.of_below (hB1'.mono hbk.2.1))
          refine (qWrite2 B (w.heap.size + 1) acc (tx (f i)) w1 hbd1 (by have := htl (f i); omega)).mono ?_
          rintro e w2 ⟨⟨v2, rfl⟩, hbd2, hk2⟩
          have hk12 := hk1'.trans hk2
          by_cases h2k : 2 ≤ k - i
          · have g3 : (2 : Int) ≤ (k : Int) - (i : Int) := by omega
            have ck2 := hc w2 hk12 k hkl
            have hov : ¬ 9223372036854775807 < 1 + (tx (f k)).length := by have := htl (f k); omega
            go_wp2_with (go_at_call 77; refine (hB (f k) w2 (hf256 k hkl) (hBel _ hk12)).mono ?_; rintro e w3 ⟨rfl, hB3'⟩)
            have e45 : (ByteArray.mk #[45] ++ ByteArray.mk (tx (f k)).toArray) = ByteArray.mk (45 :: tx (f k)).toArray := ByteArray.mk_append_mk [45] (tx (f k))
            rw [e45]
            have hbd3 := hbd2.keep hB3'
            have hk13 := hk12.trans (But1.of_below (hB3'.mono hbd2.2.1))
            refine (qWrite2 B (w.heap.size + 1) (acc ++ tx (f i)) (45 :: tx (f k)) w3 hbd3 (by have := htl (f i); have := htl (f k); simp only [List.length_append, List.length_cons]; omega)).mono ?_
            rintro e w4 ⟨⟨v4, rfl⟩, hbd4, hk4⟩
            have hk14 := hk13.trans hk4
            go_wp2
            refine ⟨⟨k + 1, _, by simp, by omega, hbd4, hk14, ?_⟩, by simp [intOf]; omega⟩
            rw [← hacc, show 257 - i = (256 - i) + 1 by omega, listB, if_pos hil, hki, if_pos h2k, hfg i hil, hfg k hkl, listB_more tx l (256 - i) (257 - (k + 1)) (k + 1) (by omega) (by omega)]
            simp
          · have g3 : decide ((k : Int) - (i : Int) ≥ 2) = false := by simp; omega
            go_wp2
            refine ⟨⟨i + 1, _, by simp, by omega, hbd2, hk12, ?_⟩, by simp [intOf]; omega⟩
            rw [← hacc, show 257 - i = (256 - i) + 1 by omega, listB, if_pos hil, hki, if_neg h2k, hfg i hil, listB_more tx l (256 - i) (257 - (i + 1)) (i + 1) (by omega) (by omega)]
            simp
    · obtain rfl : i = l.length := by omega
      have hend : listB tx l (257 - l.length) l.length = [] := by
        rw [show 257 - l.length = (256 - l.length) + 1 by omega, listB, if_neg (by omega)]
      rw [hend, List.append_nil] at hacc
      obtain ⟨q1, q2, p, v, hp, q3, q4, q5⟩ := hbd'
      have hstr : Calls Tryd.prog 54 #[.pointer (some ⟨w.heap.size + 1, 0, none⟩)] wr fun e w' => e = .returned (.string ⟨acc.toArray⟩) ∧ Below w.heap.size wr w' := by
        by_cases hn : acc = []
        · rw [q5 hn] at q3
          rw [hn]
          exact qString_nil _ _ _ _ q3
        · have hrow' : wr.ownsRow w.heap.size 5 1 v (Lib.byteCells acc).length (Lib.byteCells acc) := by
            rw [Lib.byteCells_length]
            refine ⟨q4.1, ?_⟩
            rcases q4.2 with h | ⟨g, cap, cur, h1, h2, h3⟩
            · exact .inl h
            · exact .inr ⟨g, cap, cur, h1, by omega, h3⟩
          have hne : v.ownBlock ≠ some (w.heap.size + 1) := by
            rcases q4.2 with ⟨rfl, _⟩ | ⟨g, cap, cur, rfl, h2, h3⟩
            · simp [Value.ownBlock]
            · simp [Value.ownBlock]; omega
          refine qString _ _ acc wr ?_ hn
          rcases hp with rfl | rfl
          · exact .inl ⟨by omega, v, q3, hrow', hne⟩
          · exact .inr ⟨by omega, v, q3, hrow', hne⟩
      clear q3 q4 q5 hp
      go_wp2_with (go_at_call 54; refine hstr.mono ?_; rintro e w5 ⟨rfl, hB5⟩)
      go_ret
      exact ⟨rfl, (hBel _ hk).trans hB5⟩
end Go.Proofs
