import Derived.RangeFuncKeeps
import Derived.RangeFuncNested
import Derived.RangeFuncBound
import Derived.RangeFuncCalls
import Derived.RangeFuncLeaves
import Derived.Shelf.Abstract
import Derived.Shelf.RegionOpen
import Derived.WalkKit
import Derived.OwnWalkIn
import Derived.TacticsInMore
import Derived.LoopNIn
import Derived.LoopIn
import Derived.Maps.AppendAt
import Derived.Deep.WholeRow
import Derived.Shelf.Lay
import Derived.Shelf.Spec.TrailingZeros
import Derived.Ground.Names7Prog
import Derived.Test.YtimhmmeoliagjaaDoorQA
import Derived.Lib.Builder
import Derived.Test.YtimhmmeoliagjaaDoorQV
set_option linter.unusedVariables false
set_option linter.unusedSimpArgs false
set_option maxRecDepth 100000
namespace Go.Proofs
open Go.RowKit Go.Shelf Go.Eng

shelf_lay Lays7.n29 Nm7 29 at Tryd as Tryd.laysTz
theorem tz_calls (x : Nat) (hx : x < 18446744073709551616) (w : World) (hT : TabAt 2 Lib.deBruijn64tab w) :
    Calls Tryd.prog 96 #[.int .u64 (x : Int)] w fun e w' => e = .returned (.int .i64 (Lib.ctz 64 x)) ∧ w' = w :=
  Any7.bits_TrailingZeros64 Tryd.laysTz x hx w fun _ => hT
def setW (s : Nat) : Array Value := #[.int .u64 (wrd s 0 : Int), .int .u64 (wrd s 1 : Int), .int .u64 (wrd s 2 : Int), .int .u64 (wrd s 3 : Int)]
theorem tabAt_below {n : Nat} {w W : World} (h : TabAt 2 Lib.deBruijn64tab w) (hb : Below n w W) (h2 : 2 < n) : TabAt 2 Lib.deBruijn64tab W := fun j hj => by
  rw [← h j hj]; exact hb.cell (p := ⟨2, j, none⟩) h2
theorem ix0 (x0 x1 x2 x3 : Value) (w : World) : (Instr.index 56 (.agg #[x0, x1, x2, x3]) (.int .i64 0)).run Tryd.prog w = .ok x0 w := by kernel_rfl
theorem ix1 (x0 x1 x2 x3 : Value) (w : World) : (Instr.index 56 (.agg #[x0, x1, x2, x3]) (.int .i64 1)).run Tryd.prog w = .ok x1 w := by kernel_rfl
theorem ix2 (x0 x1 x2 x3 : Value) (w : World) : (Instr.index 56 (.agg #[x0, x1, x2, x3]) (.int .i64 2)).run Tryd.prog w = .ok x2 w := by kernel_rfl
theorem ix3 (x0 x1 x2 x3 : Value) (w : World) : (Instr.index 56 (.agg #[x0, x1, x2, x3]) (.int .i64 3)).run Tryd.prog w = .ok x3 w := by kernel_rfl
set_option maxHeartbeats 4000000 in
theorem all_stops (n : Nat) (s Bm off n0 : Nat) (w0 : World) (h2 : 2 < n0) (hn0 : n0 ≤ w0.heap.size) (hset : ∀ j, j < 4 → w0.cell? ⟨Bm, off + j, none⟩ = (setW s)[j]?) (hT : TabAt 2 Lib.deBruijn64tab w0) :
    SeqStopsK Fence.wide n Tryd.prog 95 #[.pointer (some ⟨Bm, off, none⟩)] (fun c : Nat => #[.int .u8 (c : Int)]) (Below n0) (fun xs => xs = setL s) (fun pre => pre <+: setL s) 257 w0 := by
  intro l J Jx W hW hJ hJx hY h0
  have hB : Bm < w0.heap.size := by
    have := hset 0 (by decide)
    rcases Nat.lt_or_ge Bm w0.heap.size with h | h
    · exact h
    · simp [World.cell?, Array.getElem?_eq_none h, setW] at this
  refine callsIn_of_wp Tryd.func95 rfl trivial ?_ rfl
  simp only [Tryd.ntmps95, List.size_toArray, List.length_cons, List.length_nil, Nat.reduceAdd, Nat.reduceSub, Array.replicate_succ, Array.replicate_zero, List.push_toArray, List.append_toArray, List.nil_append, List.cons_append]
  have c : ∀ j, j < 4 → W.cell? ⟨Bm, off + j, none⟩ = (setW s)[j]? := fun j hj => (hW.cell (p := ⟨Bm, off + j, none⟩) hB).trans (hset j hj)
  have c0 : W.cell? ⟨Bm, off, none⟩ = some (.int .u64 (wrd s 0 : Int)) := c 0 (by decide)
  have c1 : W.cell? ⟨Bm, off + 1, none⟩ = some (.int .u64 (wrd s 1 : Int)) := c 1 (by decide)
  have c2 : W.cell? ⟨Bm, off + 2, none⟩ = some (.int .u64 (wrd s 2 : Int)) := c 2 (by decide)
  have c3 : W.cell? ⟨Bm, off + 3, none⟩ = some (.int .u64 (wrd s 3 : Int)) := c 3 (by decide)
  clear c
  gi_wp2
  gi_loopw [6] (fun p wr => ∃ (i : Nat) (pre : List Nat), p = .int .i64 (i : Int) ∧ i ≤ 4 ∧ J pre wr ∧ Below n0 w0 wr ∧ pre ++ (((List.range' i (4 - i)).map fun k => bitsF 64 (64 * k) (wrd s k)).flatten) = setL s)
    (fun p _ => 4 - (intOf p).toNat)
  case atStart =>
    exact ⟨0, [], rfl, by omega, h0, hW.mono hn0, by simp [setL, List.range']⟩
  case round =>
    obtain ⟨i, pre, rfl, hi, hj, hb, hpre⟩ := hrel
    by_cases h4 : i = 4
    · subst h4
      gi_wp2
      go_end0
      have e : pre = setL s := by simpa using hpre
      exact ⟨⟨_, rfl⟩, .inl ⟨_, rfl, by rw [← e]; exact hj⟩⟩
    · have hi4 : i = 0 ∨ i = 1 ∨ i = 2 ∨ i = 3 := by omega
      have hsp : (((List.range' i (4 - i)).map fun k => bitsF 64 (64 * k) (wrd s k)).flatten) = bitsF 64 (64 * i) (wrd s i) ++ (((List.range' (i + 1) (4 - (i + 1))).map fun k => bitsF 64 (64 * k) (wrd s k)).flatten) := by
        rw [show 4 - i = (4 - (i + 1)) + 1 by omega, List.range'_succ]; rfl
      rw [hsp] at hpre
      have hwl := wrd_lt s i
      obtain ⟨rest, hrest⟩ : ∃ rest, (((List.range' (i + 1) (4 - (i + 1))).map fun k => bitsF 64 (64 * k) (wrd s k)).flatten) = rest := ⟨_, rfl⟩
      rw [hrest] at hpre
      clear hsp
      rcases hi4 with rfl | rfl | rfl | rfl
      · have hix := fun w => ix0 (.int .u64 (wrd s 0 : Int)) (.int .u64 (wrd s 1 : Int)) (.int .u64 (wrd s 2 : Int)) (.int .u64 (wrd s 3 : Int)) w
        gi_wp2
        gi_loopw [4] (fun p wr' => ∃ (v : Nat) (pre' : List Nat), p = .int .u64 (v : Int) ∧ v < 18446744073709551616 ∧ J pre' wr' ∧ Below n0 w0 wr' ∧ pre' ++ (bitsF 64 (64 * 0) v ++ rest) = setL s)
          (fun p _ => (intOf p).toNat)
        case atStart =>
          exact ⟨_, pre, rfl, hwl, hj, hb, hpre⟩
        case round =>
          obtain ⟨v, pre', rfl, hv, hj', hb', hpre'⟩ := hrel
          by_cases hv0 : v = 0
          · subst hv0
            gi_wp2
            exact ⟨⟨1, pre', rfl, by omega, hj', hb', by rw [hrest]; simpa [bitsF_zero] using hpre'⟩, by simp [intOf]⟩
          · gi_wp2
            refine ⟨trivial, fun h => (by cases h), callsIn_wide.2 ((tz_calls v hv wr (tabAt_below hT hb' h2)).mono ?_)⟩
            rintro e w' ⟨rfl, rfl⟩
            have hk := ctz_lt (n := 64) (w := v) (by omega) hv
            have hlow := bitsF_low (n := 64) (64 * 0) (show 0 < v by omega) hv
            generalize Lib.ctz 64 v = k at hk hlow ⊢
            gi_wp2
            rw [hlow] at hpre'
            have hlen : pre'.length < 257 := by
              have h1 := setL_len s
              rw [← hpre'] at h1
              simp at h1; omega
            obtain ⟨fn, tmps, assign, body, hy, hR⟩ := hY pre' (64 * 0 + k) w' hj' hlen
            have hw : ((64 * 0 + k : Nat) : Int) = (k : Int) := by omega
            rw [hw] at hy
            rw [hy]
            gi_wp2
            refine ⟨fun h => (by cases h), hR.mono ?_⟩
            rintro e W3 (⟨rfl, hJ3, hk3⟩ | ⟨rfl, hJ3⟩)
            · gi_wp2
              have hand : bits BinOp.and IntKind.u64 (v : Int) ((v : Int) - 1) = ((v &&& (v - 1) : Nat) : Int) := by
                have e1 : ((v : Int) - 1) = ((v - 1 : Nat) : Int) := by omega
                rw [e1, bits_and_u64_nat v (v - 1) hv (by omega)]
              have hle : v &&& (v - 1) ≤ v - 1 := Nat.and_le_right
              rw [hand]
              refine ⟨⟨_, _, _, _, _, _, _, _, _, _, _, _, _, _, _, _, ⟨v &&& (v - 1), pre' ++ [64 * 0 + k], rfl, by omega, hJ3, hb'.trans hk3, by simpa using hpre'⟩, rfl⟩, ?_⟩
              simp [intOf]; omega
            · gi_wp2
              refine bodyPost_ret (results_none rfl _ _ _) rfl ?_
              exact ⟨⟨_, rfl⟩, .inr ⟨_, ⟨bitsF 64 (64 * 0) (v &&& (v - 1)) ++ rest, by simpa using hpre'⟩, hJ3⟩⟩
      · have hix := fun w => ix1 (.int .u64 (wrd s 0 : Int)) (.int .u64 (wrd s 1 : Int)) (.int .u64 (wrd s 2 : Int)) (.int .u64 (wrd s 3 : Int)) w
        gi_wp2
        gi_loopw [4] (fun p wr' => ∃ (v : Nat) (pre' : List Nat), p = .int .u64 (v : Int) ∧ v < 18446744073709551616 ∧ J pre' wr' ∧ Below n0 w0 wr' ∧ pre' ++ (bitsF 64 (64 * 1) v ++ rest) = setL s)
          (fun p _ => (intOf p).toNat)
        case atStart =>
          exact ⟨_, pre, rfl, hwl, hj, hb, hpre⟩
        case round =>
          obtain ⟨v, pre', rfl, hv, hj', hb', hpre'⟩ := hrel
          by_cases hv0 : v = 0
          · subst hv0
            gi_wp2
            exact ⟨⟨2, pre', rfl, by omega, hj', hb', by rw [hrest]; simpa [bitsF_zero] using hpre'⟩, by simp [intOf]⟩
          · gi_wp2
            refine ⟨trivial, fun h => (by cases h), callsIn_wide.2 ((tz_calls v hv wr (tabAt_below hT hb' h2)).mono ?_)⟩
            rintro e w' ⟨rfl, rfl⟩
            have hk := ctz_lt (n := 64) (w := v) (by omega) hv
            have hlow := bitsF_low (n := 64) (64 * 1) (show 0 < v by omega) hv
            generalize Lib.ctz 64 v = k at hk hlow ⊢
            gi_wp2
            rw [hlow] at hpre'
            have hlen : pre'.length < 257 := by
              have h1 := setL_len s
              rw [← hpre'] at h1
              simp at h1; omega
            obtain ⟨fn, tmps, assign, body, hy, hR⟩ := hY pre' (64 * 1 + k) w' hj' hlen
            have hw : ((64 * 1 + k : Nat) : Int) = 64 + (k : Int) := by omega
            rw [hw] at hy
            rw [hy]
            gi_wp2
            refine ⟨fun h => (by cases h), hR.mono ?_⟩
            rintro e W3 (⟨rfl, hJ3, hk3⟩ | ⟨rfl, hJ3⟩)
            · gi_wp2
              have hand : bits BinOp.and IntKind.u64 (v : Int) ((v : Int) - 1) = ((v &&& (v - 1) : Nat) : Int) := by
                have e1 : ((v : Int) - 1) = ((v - 1 : Nat) : Int) := by omega
                rw [e1, bits_and_u64_nat v (v - 1) hv (by omega)]
              have hle : v &&& (v - 1) ≤ v - 1 := Nat.and_le_right
              rw [hand]
              refine ⟨⟨_, _, _, _, _, _, _, _, _, _, _, _, _, _, _, _, ⟨v &&& (v - 1), pre' ++ [64 * 1 + k], rfl, by omega, hJ3, hb'.trans hk3, by simpa using hpre'⟩, rfl⟩, ?_⟩
              simp [intOf]; omega
            · gi_wp2
              refine bodyPost_ret (results_none rfl _ _ _) rfl ?_
              exact ⟨⟨_, rfl⟩, .inr ⟨_, ⟨bitsF 64 (64 * 1) (v &&& (v - 1)) ++ rest, by simpa using hpre'⟩, hJ3⟩⟩
      · have hix := fun w => ix2 (.int .u64 (wrd s 0 : Int)) (.int .u64 (wrd s 1 : Int)) (.int .u64 (wrd s 2 : Int)) (.int .u64 (wrd s 3 : Int)) w
        gi_wp2
        gi_loopw [4] (fun p wr' => ∃ (v : Nat) (pre' : List Nat), p = .int .u64 (v : Int) ∧ v < 18446744073709551616 ∧ J pre' wr' ∧ Below n0 w0 wr' ∧ pre' ++ (bitsF 64 (64 * 2) v ++ rest) = setL s)
          (fun p _ => (intOf p).toNat)
        case atStart =>
          exact ⟨_, pre, rfl, hwl, hj, hb, hpre⟩
        case round =>
          obtain ⟨v, pre', rfl, hv, hj', hb', hpre'⟩ := hrel
          by_cases hv0 : v = 0
          · subst hv0
            gi_wp2
            exact ⟨⟨3, pre', rfl, by omega, hj', hb', by rw [hrest]; simpa [bitsF_zero] using hpre'⟩, by simp [intOf]⟩
          · gi_wp2
            refine ⟨trivial, fun h => (by cases h), callsIn_wide.2 ((tz_calls v hv wr (tabAt_below hT hb' h2)).mono ?_)⟩
            rintro e w' ⟨rfl, rfl⟩
            have hk := ctz_lt (n := 64) (w := v) (by omega) hv
            have hlow := bitsF_low (n := 64) (64 * 2) (show 0 < v by omega) hv
            generalize Lib.ctz 64 v = k at hk hlow ⊢
            gi_wp2
            rw [hlow] at hpre'
            have hlen : pre'.length < 257 := by
              have h1 := setL_len s
              rw [← hpre'] at h1
              simp at h1; omega
            obtain ⟨fn, tmps, assign, body, hy, hR⟩ := hY pre' (64 * 2 + k) w' hj' hlen
            have hw : ((64 * 2 + k : Nat) : Int) = 128 + (k : Int) := by omega
            rw [hw] at hy
            rw [hy]
            gi_wp2
            refine ⟨fun h => (by cases h), hR.mono ?_⟩
            rintro e W3 (⟨rfl, hJ3, hk3⟩ | ⟨rfl, hJ3⟩)
            · gi_wp2
              have hand : bits BinOp.and IntKind.u64 (v : Int) ((v : Int) - 1) = ((v &&& (v - 1) : Nat) : Int) := by
                have e1 : ((v : Int) - 1) = ((v - 1 : Nat) : Int) := by omega
                rw [e1, bits_and_u64_nat v (v - 1) hv (by omega)]
              have hle : v &&& (v - 1) ≤ v - 1 := Nat.and_le_right
              rw [hand]
              refine ⟨⟨_, _, _, _, _, _, _, _, _, _, _, _, _, _, _, _, ⟨v &&& (v - 1), pre' ++ [64 * 2 + k], rfl, by omega, hJ3, hb'.trans hk3, by simpa using hpre'⟩, rfl⟩, ?_⟩
              simp [intOf]; omega
            · gi_wp2
              refine bodyPost_ret (results_none rfl _ _ _) rfl ?_
              exact ⟨⟨_, rfl⟩, .inr ⟨_, ⟨bitsF 64 (64 * 2) (v &&& (v - 1)) ++ rest, by simpa using hpre'⟩, hJ3⟩⟩
      · have hix := fun w => ix3 (.int .u64 (wrd s 0 : Int)) (.int .u64 (wrd s 1 : Int)) (.int .u64 (wrd s 2 : Int)) (.int .u64 (wrd s 3 : Int)) w
        gi_wp2
        gi_loopw [4] (fun p wr' => ∃ (v : Nat) (pre' : List Nat), p = .int .u64 (v : Int) ∧ v < 18446744073709551616 ∧ J pre' wr' ∧ Below n0 w0 wr' ∧ pre' ++ (bitsF 64 (64 * 3) v ++ rest) = setL s)
          (fun p _ => (intOf p).toNat)
        case atStart =>
          exact ⟨_, pre, rfl, hwl, hj, hb, hpre⟩
        case round =>
          obtain ⟨v, pre', rfl, hv, hj', hb', hpre'⟩ := hrel
          by_cases hv0 : v = 0
          · subst hv0
            gi_wp2
            exact ⟨⟨4, pre', rfl, by omega, hj', hb', by rw [hrest]; simpa [bitsF_zero] using hpre'⟩, by simp [intOf]⟩
          · gi_wp2
            refine ⟨trivial, fun h => (by cases h), callsIn_wide.2 ((tz_calls v hv wr (tabAt_below hT hb' h2)).mono ?_)⟩
            rintro e w' ⟨rfl, rfl⟩
            have hk := ctz_lt (n := 64) (w := v) (by omega) hv
            have hlow := bitsF_low (n := 64) (64 * 3) (show 0 < v by omega) hv
            generalize Lib.ctz 64 v = k at hk hlow ⊢
            gi_wp2
            rw [hlow] at hpre'
            have hlen : pre'.length < 257 := by
              have h1 := setL_len s
              rw [← hpre'] at h1
              simp at h1; omega
            obtain ⟨fn, tmps, assign, body, hy, hR⟩ := hY pre' (64 * 3 + k) w' hj' hlen
            have hw : ((64 * 3 + k : Nat) : Int) = 192 + (k : Int) := by omega
            rw [hw] at hy
            rw [hy]
            gi_wp2
            refine ⟨fun h => (by cases h), hR.mono ?_⟩
            rintro e W3 (⟨rfl, hJ3, hk3⟩ | ⟨rfl, hJ3⟩)
            · gi_wp2
              have hand : bits BinOp.and IntKind.u64 (v : Int) ((v : Int) - 1) = ((v &&& (v - 1) : Nat) : Int) := by
                have e1 : ((v : Int) - 1) = ((v - 1 : Nat) : Int) := by omega
                rw [e1, bits_and_u64_nat v (v - 1) hv (by omega)]
              have hle : v &&& (v - 1) ≤ v - 1 := Nat.and_le_right
              rw [hand]
              refine ⟨⟨_, _, _, _, _, _, _, _, _, _, _, _, _, _, _, _, ⟨v &&& (v - 1), pre' ++ [64 * 3 + k], rfl, by omega, hJ3, hb'.trans hk3, by simpa using hpre'⟩, rfl⟩, ?_⟩
              simp [intOf]; omega
            · gi_wp2
              refine bodyPost_ret (results_none rfl _ _ _) rfl ?_
              exact ⟨⟨_, rfl⟩, .inr ⟨_, ⟨bitsF 64 (64 * 3) (v &&& (v - 1)) ++ rest, by simpa using hpre'⟩, hJ3⟩⟩
end Go.Proofs
