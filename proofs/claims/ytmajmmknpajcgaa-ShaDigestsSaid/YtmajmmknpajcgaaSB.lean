/- The first primes, handed one by one. -/
import Derived.RangeFuncNested
import Derived.RangeFuncBound
import Derived.RangeFuncCalls
import Derived.RangeFuncLeaves
import Derived.Shelf.Abstract
import Derived.Shelf.RegionOpen
import Derived.WalkKit
import Derived.OwnWalkIn
import Derived.TacticsInMore
import Derived.LoopNIn
import Derived.LoopIn
import Derived.Maps.AppendAt
import Derived.Test.YtmajmmknpajcgaaSA
set_option linter.unusedVariables false
set_option maxRecDepth 100000
namespace Go.Proofs
open Go.RowKit Go.Shelf

/-- The primes below a number. -/
def sPrimes (n : Nat) : List Int := (([2, 3, 5, 7, 11, 13, 17, 19, 23] : List Nat).filter (· < n)).map Int.ofNat
def sNth (k : Nat) : Int := ([2, 3, 5, 7, 11, 13, 17, 19, 23] : List Int).getD k 0
theorem sPrimes_len {n : Nat} (h : n ≤ 23) : (sPrimes n).length ≤ 8 := by
  have : ∀ k : Fin 24, (sPrimes k.1).length ≤ 8 := by decide
  exact this ⟨n, by omega⟩
theorem sPrimes_two {n i : Nat} {x : Int} (h : (sPrimes n)[i]? = some x) : 2 ≤ x ∧ x ≤ 23 := by
  have := List.mem_of_getElem? h
  simp only [sPrimes, List.mem_map, List.mem_filter] at this
  obtain ⟨a, ⟨h1, _⟩, rfl⟩ := this
  simp at h1
  rcases h1 with rfl | rfl | rfl | rfl | rfl | rfl | rfl | rfl | rfl <;> decide
theorem sPrimes_next {n : Nat} (h2 : 2 ≤ n) (h : n ≤ 23) (ha : ((sPrimes n).all fun p => (n : Int) % p != 0) = true) : (n : Int) = sNth (sPrimes n).length ∧ sPrimes (n + 1) = sPrimes n ++ [(n : Int)] ∧ ((sPrimes n).length = 8 → n = 23) ∧ (n = 23 → (sPrimes n).length = 8) := by
  have : ∀ k : Fin 24, 2 ≤ k.1 → ((sPrimes k.1).all fun p => (k.1 : Int) % p != 0) = true → (k.1 : Int) = sNth (sPrimes k.1).length ∧ sPrimes (k.1 + 1) = sPrimes k.1 ++ [(k.1 : Int)] ∧ ((sPrimes k.1).length = 8 → k.1 = 23) ∧ (k.1 = 23 → (sPrimes k.1).length = 8) := by decide
  exact this ⟨n, by omega⟩ h2 ha
theorem sPrimes_skip {n : Nat} (h2 : 2 ≤ n) (h : n ≤ 23) (ha : ((sPrimes n).all fun p => (n : Int) % p != 0) = false) : sPrimes (n + 1) = sPrimes n ∧ n ≤ 22 := by
  have : ∀ k : Fin 24, 2 ≤ k.1 → ((sPrimes k.1).all fun p => (k.1 : Int) % p != 0) = false → sPrimes (k.1 + 1) = sPrimes k.1 ∧ k.1 ≤ 22 := by decide
  exact this ⟨n, by omega⟩ h2 ha
theorem sInfo3 : (Try.prog.info? 3).map (fun i => (i.zero, i.size, i.bytes)) = some (some (.int .i64 0), 1, 8) := by kernel_rfl
/-- What lies at or beyond B lies as it lay. -/
structure Above (B : Nat) (W W' : World) : Prop where
  size : W.heap.size ≤ W'.heap.size
  same : ∀ c, B ≤ c → c < W.heap.size → W'.heap[c]? = W.heap[c]?

theorem ownsRow_above {B : Nat} {W W' : World} (hk : Above B W W') {e : TypeId} {size : Nat} {v : Value} {n : Nat} {xs : List Value} (h : W.ownsRow B e size v n xs) : W'.ownsRow B e size v n xs := by
  refine ⟨h.1, ?_⟩
  rcases h.2 with h | ⟨g, cap, cur, h1, h2, h3, h4⟩
  · exact .inl h
  · exact .inr ⟨g, cap, cur, h1, h2, by rw [hk.same g h2 (Array.getElem?_eq_some_iff.1 h3).1]; exact h3, h4⟩
set_option maxHeartbeats 4000000 in
theorem sPrimes_in (l B : Nat) (J : Nat → World → Prop) (Jx : World → Prop)
    (hJ : ∀ k W W', J k W → Below B W W' → J k W')
    (hY : ∀ k W, k < 8 → J k W → YieldAt Fence.wide 5 Try.prog l #[.int .i64 (sNth k)] W fun e W' => e = .returned (.bool true) ∧ J (k + 1) W' ∧ Above B W W')
    (hY8 : ∀ W, J 8 W → YieldAt Fence.wide 5 Try.prog l #[.int .i64 23] W fun e W' => e = .returned (.bool false) ∧ Jx W')
    (W : World) (hB : B ≤ W.heap.size) (h0 : J 0 W) :
    CallsIn Fence.wide 6 Try.prog 55 #[.func (.yield l) #[] #[]] W fun e W' => (∃ v, e = .returned v) ∧ Jx W' := by
  refine callsIn_of_wp Try.func55 rfl trivial ?_ rfl
  simp only [Try.ntmps55, List.size_toArray, List.length_cons, List.length_nil, Nat.reduceAdd, Nat.reduceSub, Array.replicate_succ, Array.replicate_zero, List.push_toArray, List.append_toArray, List.nil_append, List.cons_append]
  gi_wp2
  gi_loopw [2, 3] (fun p v wr => ∃ n : Nat, p = .int .i64 (n : Int) ∧ 2 ≤ n ∧ n ≤ 23 ∧ wr.ownsRow B 3 1 v (sPrimes n).length ((sPrimes n).map (Value.int .i64)) ∧ J (sPrimes n).length wr ∧ B ≤ wr.heap.size)
    (fun p _ _ => 24 - (intOf p).toNat)
  case atStart =>
    exact ⟨2, rfl, by omega, by omega, World.ownsRow_nil _ _ _ _, h0, hB⟩
  case round =>
    obtain ⟨n, rfl, h2, h23, hrow, hj, hs⟩ := hrel
    obtain ⟨L, hL⟩ : ∃ L, (sPrimes n).length = L := ⟨_, rfl⟩
    have hL8 : L ≤ 8 := by rw [← hL]; exact sPrimes_len h23
    rw [hL] at hrow hj
    obtain ⟨ad, cap, rfl⟩ : ∃ ad cap, u3 = .slice ad L cap := by
      rcases hrow.2 with ⟨hv, hz⟩ | ⟨g, cap, cur, hv, _⟩
      · exact ⟨none, 0, by rw [hv, hz]⟩
      · exact ⟨_, _, hv⟩
    gi_wp2
    gi_loopw [4, 11] (fun is ix wr' => wr' = wr ∧ ∃ i : Nat, ix = .int .i64 (i : Int) ∧ i ≤ L ∧ is = .bool (((sPrimes n).take i).all fun p => (n : Int) % p != 0))
      (fun _ ix _ => L - (intOf ix).toNat)
    case atStart =>
      exact ⟨rfl, 0, rfl, Nat.zero_le _, rfl⟩
    case round =>
      obtain ⟨rfl, i, rfl, hi, rfl⟩ := hrel
      obtain ⟨b, hb⟩ : ∃ b, (((sPrimes n).take i).all fun p => (n : Int) % p != 0) = b := ⟨_, rfl⟩
      rw [hb]
      by_cases hc : i < L
      · rcases hrow.2 with ⟨hv, hz⟩ | ⟨g, cap', cur, hv, _⟩
        · omega
        · injection hv with e1 e2 e3
          subst e1
          obtain ⟨x, hx⟩ : ∃ x, (sPrimes n)[i]? = some x := ⟨_, List.getElem?_eq_getElem (by rw [hL]; exact hc)⟩
          have hx2 := sPrimes_two hx
          have hcell : wr.cell? ⟨g, i, none⟩ = some (.int .i64 x) := by
            have := hrow.cells (g := g) rfl i (.int .i64 x) (by simp [hx])
            rcases Nat.eq_zero_or_pos i with rfl | h0
            · simpa [Addr.add] using this
            · simpa [Addr.add, Nat.ne_of_gt h0] using this
          have hall : (((sPrimes n).take (i + 1)).all fun p => (n : Int) % p != 0) = (b && ((n : Int) % x != 0)) := by
            rw [List.take_add_one, hx, List.all_append, hb]; simp
          cases b
          · gi_wp2
            exact ⟨⟨trivial, i + 1, rfl, by omega, by rw [hall]; rfl⟩, by simp [intOf]; omega⟩
          · gi_wp2
            exact ⟨⟨trivial, i + 1, rfl, by omega, by rw [hall]; rfl⟩, by simp [intOf]; omega⟩
      · obtain rfl : i = L := by omega
        have hall : (sPrimes n).take i = sPrimes n := by rw [← hL, List.take_length]
        rw [hall] at hb
        cases b
        · gi_wp2
          obtain ⟨hs1, hs2⟩ := sPrimes_skip h2 h23 hb
          exact ⟨⟨n + 1, rfl, by omega, by omega, by rw [hs1, hL]; exact hrow, by rw [hs1, hL]; exact hj, hs⟩, by simp [intOf]; omega⟩
        · obtain ⟨i0, hi0, hz0, hz1, hz2⟩ := info_parts sInfo3
          gi_wp2_with (gi_at_builtin; refine wpListIn_append_own _ rfl _ _ 51 rfl B 3 i0 (.int .i64 0) 1 8 Try.underlying51 hi0 hz0 hz1 hz2 rfl (by decide) _ _ _ rfl (hrow.alloc _) ⟨wr.heap.size, 0, none⟩ 1 1 [.int .i64 (n : Int)] rfl rfl (cell_one_new _ _ _) (by simp [Value.oneCell']) (by unfold maxLen; omega) (by omega) (by simp; omega) ?_; intro v' w1 hown' hgrow _)
          have hb1 : Below B wr w1 := ((Below.refl B wr).alloc hs _).grown hgrow (by simp; omega) (fun k hk => (hrow.lt k hk).1)
          have hj1 := hJ i wr w1 hj hb1
          have hsz : B ≤ w1.heap.size := Nat.le_trans hs hb1.size
          by_cases h8 : i = 8
          · subst h8
            obtain rfl : n = 23 := (sPrimes_next h2 h23 hb).2.2.1 hL
            obtain ⟨fn, tmps, assign, body, hy, hR⟩ := hY8 w1 hj1
            rw [show (Value.int .i64 ((23 : Nat) : Int)) = .int .i64 23 from rfl] at *
            rw [hy]
            gi_wp2
            refine hR.mono ?_
            rintro e W3 ⟨rfl, hJx⟩
            gi_wp2
            refine bodyPost_ret (results_none rfl _ _ _) rfl ?_
            exact ⟨⟨_, rfl⟩, hJx⟩
          · obtain ⟨fn, tmps, assign, body, hy, hR⟩ := hY i w1 (by omega) hj1
            have hne : (n : Int) = sNth i := by rw [← hL]; exact (sPrimes_next h2 h23 hb).1
            rw [← hne] at hy
            clear hne
            rw [hy]
            gi_wp2
            refine hR.mono ?_
            rintro e W3 ⟨rfl, hJ3, hk3⟩
            gi_wp2
            have hn := sPrimes_next h2 h23 hb
            have hl1 : (sPrimes (n + 1)).length = i + 1 := by rw [hn.2.1]; simp [hL]
            have hn23 : n ≠ 23 := fun e => h8 (by rw [← hL]; exact hn.2.2.2 e)
            refine ⟨⟨n + 1, rfl, by omega, by omega, ?_, by rw [hl1]; exact hJ3, Nat.le_trans hsz hk3.size⟩, by simp [intOf]; omega⟩
            have := ownsRow_above (hk := hk3) hown'
            rw [hl1, hn.2.1, List.map_append]
            exact this
end Go.Proofs
