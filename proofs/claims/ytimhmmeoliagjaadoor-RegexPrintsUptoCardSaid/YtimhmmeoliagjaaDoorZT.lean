import Derived.Test.YtimhmmeoliagjaaDoorZP
import Derived.Test.YtimhmmeoliagjaaDoorZL
set_option linter.unusedVariables false
set_option linter.unusedSimpArgs false
set_option linter.unusedSectionVars false
set_option maxRecDepth 100000
namespace Go.Eng
open Go Go.Proofs
open Tryd (prog)

theorem Rx.knd_ne (t : Rx) : t.knd ≠ 0 := by cases t <;> simp [Rx.knd]
theorem brk_40 (t : Rx) (x : List Nat) : brk [4, 0] t x = brk [4] t x := by
 have := t.knd_ne
 unfold brk
 simp [this]
theorem brk_00 (t : Rx) (x : List Nat) : brk [0, 0] t x = x := by
 have := t.knd_ne
 unfold brk
 simp [this]
theorem rtext_end {H : Heap} {q : Nat} {nd : Nd} {t : Rx} {x : List Nat} (a b : Int) (hg : H.get q = some ⟨ND nd, 1, true⟩) (hk : nd.kind = t.knd) (hx : x.length < 1000000) :
  Ev (fun n m => f37_J1 real (AX n) n (.int .i64 a) (.int .i64 b) (ptr q 0) (.string (strOf x)) H) (.string (strOf (brk [a, b] t x)), H) := by
 have o1 := op_add (show x.length < 10000000 by omega)
 have o2 := cl_add (d := 40 :: x) (by simp; omega)
 unfold brk
 by_cases ha : t.knd = a
 ·rw [if_pos (by rw [ha]; exact List.mem_cons_self)]
  have e : (t.knd == a) = true := by rw [ha]; simp
  simp only [f37_J1, ruZ, Int.reduceBEq, Int.reduceBNe, nd0 hg, hk, e, o1, o2]
  exact Ev.pure _
 ·have e : (t.knd == a) = false := by rw [i_eq, decide_eq_false ha]
  by_cases hb : t.knd = b
  ·rw [if_pos (by rw [hb]; simp)]
   have e' : (t.knd == b) = true := by rw [hb]; simp
   simp only [f37_J1, ruZ, Int.reduceBEq, Int.reduceBNe, nd0 hg, hk, e, e', o1, o2]
   exact Ev.pure _
  ·rw [if_neg (by simp [ha, hb])]
   have e' : (t.knd == b) = false := by rw [i_eq, decide_eq_false hb]
   simp only [f37_J1, ruZ, Int.reduceBEq, Int.reduceBNe, nd0 hg, hk, e, e']
   exact Ev.pure _
theorem rtext_ok {l : List Nd} {v : Value} : ∀ (t : Rx) (o : Nat) (a b : Int) (H : Heap), t.size ≤ 256 → o + t.size ≤ 1000000 → At l o t → Sl (all H) H 7 v l.length (NDS l) →
  ∃ H', ClX 37 [v, .int .i64 ((o + t.size - 1 : Nat) : Int), .int .i64 a, .int .i64 b] H (.string (strOf (brk [a, b] t (prT t)))) H' ∧ Keep (all H) H H' := by
 intro t
 induction t with
 | nil =>
  intro o a b H hsz ho hat hs
  obtain ⟨ad, q1, q2, q3, q4⟩ := node_at hs (n := ⟨1, 0, 0, 0⟩) hat.top
  obtain ⟨H1, hH1⟩ : ∃ H1, H.push ⟨ND ⟨1, 0, 0, 0⟩, 1, true⟩ = H1 := ⟨_, rfl⟩
  rw [hH1] at q4
  have k1 : Keep (all H) H H1 := by rw [← hH1]; exact push_keep
  have g1 : H1.get H.n = some ⟨ND ⟨1, 0, 0, 0⟩, 1, true⟩ := by rw [← hH1]; exact push_self
  refine ⟨H1, Ev.enter (fun n => f37_eq rfl n _ _ _ _ _) ?_, k1⟩
  simp only [f37, ruZ, Int.reduceBEq, Int.reduceBNe, q1, q2, show newV [(.int .i64 0), (.int .u64 0), (.int .u64 0), (.int .u64 0), (.int .u64 0), (.int .i64 0), (.int .i64 0)] H = _ from q3, q4, nd0 g1]
  exact rtext_end (t := .nil) (x := [40, 41]) a b g1 rfl (by simp)
 | set s =>
  intro o a b H hsz ho hat hs
  obtain ⟨ad, q1, q2, q3, q4⟩ := node_at hs (n := ⟨2, s, 0, 0⟩) hat.top
  obtain ⟨H1, hH1⟩ : ∃ H1, H.push ⟨ND ⟨2, s, 0, 0⟩, 1, true⟩ = H1 := ⟨_, rfl⟩
  rw [hH1] at q4
  have k1 : Keep (all H) H H1 := by rw [← hH1]; exact push_keep
  have g1 : H1.get H.n = some ⟨ND ⟨2, s, 0, 0⟩, 1, true⟩ := by rw [← hH1]; exact push_self
  obtain ⟨H2, c2, k2⟩ := rset_ok s H1
  have k12 := k1.trans (k2.mono (upA k1))
  refine ⟨H2, Ev.enter (fun n => f37_eq rfl n _ _ _ _ _) ?_, k12⟩
  simp only [f37, ruZ, Int.reduceBEq, Int.reduceBNe, q1, q2, show newV [(.int .i64 0), (.int .u64 0), (.int .u64 0), (.int .u64 0), (.int .u64 0), (.int .i64 0), (.int .i64 0)] H = _ from q3, q4, nd0 g1, nd1 g1]
  refine Ev.callC c2 ?_
  exact rtext_end (t := .set s) (x := setN s) (nd := ⟨2, s, 0, 0⟩) a b (by rw [k2.2 _ (show H.n < H1.n by rw [← hH1]; simp [push_n])]; exact g1) rfl (by have := setN_len s; omega)
 | seq x y ihx ihy =>
  intro o a b H hsz ho hat hs
  simp only [Rx.size] at hsz ho
  have px := x.size_pos
  have py := y.size_pos
  obtain ⟨ad, q1, q2, q3, q4⟩ := node_at hs (n := ⟨3, 0, ((o + x.size - 1 : Nat) : Int), ((o + x.size + y.size - 1 : Nat) : Int)⟩) hat.top
  obtain ⟨nd, hnd⟩ : ∃ nd : Nd, (⟨3, 0, ((o + x.size - 1 : Nat) : Int), ((o + x.size + y.size - 1 : Nat) : Int)⟩ : Nd) = nd := ⟨_, rfl⟩
  rw [hnd] at q2 q4
  have ekind : nd.kind = 3 := by rw [← hnd]
  have eA : nd.a = ((o + x.size - 1 : Nat) : Int) := by rw [← hnd]
  have eB : nd.b = ((o + x.size + y.size - 1 : Nat) : Int) := by rw [← hnd]
  obtain ⟨H1, hH1⟩ : ∃ H1, H.push ⟨ND nd, 1, true⟩ = H1 := ⟨_, rfl⟩
  rw [hH1] at q4
  have k1 : Keep (all H) H H1 := by rw [← hH1]; exact push_keep
  have g1 : H1.get H.n = some ⟨ND nd, 1, true⟩ := by rw [← hH1]; exact push_self
  have hn1 : H.n < H1.n := by rw [← hH1]; simp [push_n]
  obtain ⟨H3, c3, k3⟩ := ihx o 4 0 H1 (by omega) (by omega) hat.seq.1 ((hs.keep k1).mono (upA k1))
  rw [brk_40] at c3
  have k13 := k1.trans (k3.mono (upA k1))
  have g3 : H3.get H.n = some ⟨ND nd, 1, true⟩ := by rw [k3.2 _ hn1]; exact g1
  have hn3 : H.n < H3.n := by have := k3.1; omega
  obtain ⟨H5, c5, k5⟩ := ihy (o + x.size) 4 3 H3 (by omega) (by omega) hat.seq.2 ((hs.keep k13).mono (upA k13))
  have k15 := k13.trans (k5.mono (upA k13))
  have g5 : H5.get H.n = some ⟨ND nd, 1, true⟩ := by rw [k5.2 _ hn3]; exact g3
  have z5 := nd5 g1
  have z6 := nd6 g3
  rw [eA] at z5
  rw [eB] at z6
  refine ⟨H5, Ev.enter (fun n => f37_eq rfl n _ _ _ _ _) ?_, k15⟩
  simp only [f37, ruZ, Int.reduceBEq, Int.reduceBNe, q1, q2, show newV [(.int .i64 0), (.int .u64 0), (.int .u64 0), (.int .u64 0), (.int .u64 0), (.int .i64 0), (.int .i64 0)] H = _ from q3, q4, nd0 g1, ekind, z5]
  refine Ev.callC c3 ?_
  simp only [ruZ, Int.reduceBEq, Int.reduceBNe, blk_keep hn1 k3, Bool.and_true, z6]
  refine Ev.callC c5 ?_
  simp only [ruZ, Int.reduceBEq, Int.reduceBNe, two_add (Nat.lt_trans (brk_len' (ks := [4]) (show x.size ≤ 256 by omega)) (by omega)) (Nat.lt_trans (brk_len' (ks := [4, 3]) (show y.size ≤ 256 by omega)) (by omega))]
  exact rtext_end (t := .seq x y) (x := brk [4] x (prT x) ++ brk [4, 3] y (prT y)) a b g5 (by rw [ekind]; rfl) (prT_len' (t := .seq x y) (by simp only [Rx.size]; omega))
 | alt x y ihx ihy =>
  intro o a b H hsz ho hat hs
  simp only [Rx.size] at hsz ho
  have px := x.size_pos
  have py := y.size_pos
  obtain ⟨ad, q1, q2, q3, q4⟩ := node_at hs (n := ⟨4, 0, ((o + x.size - 1 : Nat) : Int), ((o + x.size + y.size - 1 : Nat) : Int)⟩) hat.top
  obtain ⟨nd, hnd⟩ : ∃ nd : Nd, (⟨4, 0, ((o + x.size - 1 : Nat) : Int), ((o + x.size + y.size - 1 : Nat) : Int)⟩ : Nd) = nd := ⟨_, rfl⟩
  rw [hnd] at q2 q4
  have ekind : nd.kind = 4 := by rw [← hnd]
  have eA : nd.a = ((o + x.size - 1 : Nat) : Int) := by rw [← hnd]
  have eB : nd.b = ((o + x.size + y.size - 1 : Nat) : Int) := by rw [← hnd]
  obtain ⟨H1, hH1⟩ : ∃ H1, H.push ⟨ND nd, 1, true⟩ = H1 := ⟨_, rfl⟩
  rw [hH1] at q4
  have k1 : Keep (all H) H H1 := by rw [← hH1]; exact push_keep
  have g1 : H1.get H.n = some ⟨ND nd, 1, true⟩ := by rw [← hH1]; exact push_self
  have hn1 : H.n < H1.n := by rw [← hH1]; simp [push_n]
  obtain ⟨H3, c3, k3⟩ := ihx o 0 0 H1 (by omega) (by omega) hat.alt.1 ((hs.keep k1).mono (upA k1))
  rw [brk_00] at c3
  have k13 := k1.trans (k3.mono (upA k1))
  have g3 : H3.get H.n = some ⟨ND nd, 1, true⟩ := by rw [k3.2 _ hn1]; exact g1
  have hn3 : H.n < H3.n := by have := k3.1; omega
  obtain ⟨H5, c5, k5⟩ := ihy (o + x.size) 4 0 H3 (by omega) (by omega) hat.alt.2 ((hs.keep k13).mono (upA k13))
  rw [brk_40] at c5
  have k15 := k13.trans (k5.mono (upA k13))
  have g5 : H5.get H.n = some ⟨ND nd, 1, true⟩ := by rw [k5.2 _ hn3]; exact g3
  have z5 := nd5 g1
  have z6 := nd6 g3
  rw [eA] at z5
  rw [eB] at z6
  have lx : (prT x).length < 1000000 := prT_len' (by omega)
  refine ⟨H5, Ev.enter (fun n => f37_eq rfl n _ _ _ _ _) ?_, k15⟩
  simp only [f37, ruZ, Int.reduceBEq, Int.reduceBNe, q1, q2, show newV [(.int .i64 0), (.int .u64 0), (.int .u64 0), (.int .u64 0), (.int .u64 0), (.int .i64 0), (.int .i64 0)] H = _ from q3, q4, nd0 g1, ekind, z5]
  refine Ev.callC c3 ?_
  simp only [ruZ, Int.reduceBEq, Int.reduceBNe, bar_add (show (prT x).length < 10000000 by omega), blk_keep hn1 k3, Bool.and_true, z6]
  refine Ev.callC c5 ?_
  simp only [ruZ, Int.reduceBEq, Int.reduceBNe, two_add (a := prT x ++ [124]) (by simp; omega) (Nat.lt_trans (brk_len' (ks := [4]) (show y.size ≤ 256 by omega)) (by omega))]
  have ee : prT x ++ [124] ++ brk [4] y (prT y) = prT (.alt x y) := by simp [prT]
  rw [ee]
  exact rtext_end (t := .alt x y) (x := prT (.alt x y)) a b g5 (by rw [ekind]; rfl) (prT_len' (t := .alt x y) (by simp only [Rx.size]; omega))
 | star x ihx =>
  intro o a b H hsz ho hat hs
  simp only [Rx.size] at hsz ho
  have px := x.size_pos
  obtain ⟨ad, q1, q2, q3, q4⟩ := node_at hs (n := ⟨5, 0, ((o + x.size - 1 : Nat) : Int), 0⟩) hat.top
  obtain ⟨nd, hnd⟩ : ∃ nd : Nd, (⟨5, 0, ((o + x.size - 1 : Nat) : Int), 0⟩ : Nd) = nd := ⟨_, rfl⟩
  rw [hnd] at q2 q4
  have ekind : nd.kind = 5 := by rw [← hnd]
  have eA : nd.a = ((o + x.size - 1 : Nat) : Int) := by rw [← hnd]
  obtain ⟨H1, hH1⟩ : ∃ H1, H.push ⟨ND nd, 1, true⟩ = H1 := ⟨_, rfl⟩
  rw [hH1] at q4
  have k1 : Keep (all H) H H1 := by rw [← hH1]; exact push_keep
  have g1 : H1.get H.n = some ⟨ND nd, 1, true⟩ := by rw [← hH1]; exact push_self
  have hn1 : H.n < H1.n := by rw [← hH1]; simp [push_n]
  obtain ⟨H3, c3, k3⟩ := ihx o 4 3 H1 (by omega) (by omega) hat.star ((hs.keep k1).mono (upA k1))
  have k13 := k1.trans (k3.mono (upA k1))
  have g3 : H3.get H.n = some ⟨ND nd, 1, true⟩ := by rw [k3.2 _ hn1]; exact g1
  have z5 := nd5 g1
  rw [eA] at z5
  refine ⟨H3, Ev.enter (fun n => f37_eq rfl n _ _ _ _ _) ?_, k13⟩
  simp only [f37, ruZ, Int.reduceBEq, Int.reduceBNe, q1, q2, show newV [(.int .i64 0), (.int .u64 0), (.int .u64 0), (.int .u64 0), (.int .u64 0), (.int .i64 0), (.int .i64 0)] H = _ from q3, q4, nd0 g1, ekind, z5]
  refine Ev.callC c3 ?_
  simp only [ruZ, Int.reduceBEq, Int.reduceBNe, st_add (Nat.lt_trans (brk_len' (ks := [4, 3]) (show x.size ≤ 256 by omega)) (by omega))]
  exact rtext_end (t := .star x) (x := prT (.star x)) a b g3 (by rw [ekind]; rfl) (prT_len' (t := .star x) (by simp only [Rx.size]; omega))
 | plus x ihx =>
  intro o a b H hsz ho hat hs
  simp only [Rx.size] at hsz ho
  have px := x.size_pos
  obtain ⟨ad, q1, q2, q3, q4⟩ := node_at hs (n := ⟨6, 0, ((o + x.size - 1 : Nat) : Int), 0⟩) hat.top
  obtain ⟨nd, hnd⟩ : ∃ nd : Nd, (⟨6, 0, ((o + x.size - 1 : Nat) : Int), 0⟩ : Nd) = nd := ⟨_, rfl⟩
  rw [hnd] at q2 q4
  have ekind : nd.kind = 6 := by rw [← hnd]
  have eA : nd.a = ((o + x.size - 1 : Nat) : Int) := by rw [← hnd]
  obtain ⟨H1, hH1⟩ : ∃ H1, H.push ⟨ND nd, 1, true⟩ = H1 := ⟨_, rfl⟩
  rw [hH1] at q4
  have k1 : Keep (all H) H H1 := by rw [← hH1]; exact push_keep
  have g1 : H1.get H.n = some ⟨ND nd, 1, true⟩ := by rw [← hH1]; exact push_self
  have hn1 : H.n < H1.n := by rw [← hH1]; simp [push_n]
  obtain ⟨H3, c3, k3⟩ := ihx o 4 3 H1 (by omega) (by omega) hat.plus ((hs.keep k1).mono (upA k1))
  have k13 := k1.trans (k3.mono (upA k1))
  have g3 : H3.get H.n = some ⟨ND nd, 1, true⟩ := by rw [k3.2 _ hn1]; exact g1
  have z5 := nd5 g1
  rw [eA] at z5
  refine ⟨H3, Ev.enter (fun n => f37_eq rfl n _ _ _ _ _) ?_, k13⟩
  simp only [f37, ruZ, Int.reduceBEq, Int.reduceBNe, q1, q2, show newV [(.int .i64 0), (.int .u64 0), (.int .u64 0), (.int .u64 0), (.int .u64 0), (.int .i64 0), (.int .i64 0)] H = _ from q3, q4, nd0 g1, ekind, z5]
  refine Ev.callC c3 ?_
  simp only [ruZ, Int.reduceBEq, Int.reduceBNe, pl_add (Nat.lt_trans (brk_len' (ks := [4, 3]) (show x.size ≤ 256 by omega)) (by omega))]
  exact rtext_end (t := .plus x) (x := prT (.plus x)) a b g3 (by rw [ekind]; rfl) (prT_len' (t := .plus x) (by simp only [Rx.size]; omega))
theorem rprint_ok {t : Rx} {v : Value} (ht : t.size ≤ 256) (hc : chkN (t.flat 0) = 0) {H : Heap} (hs : Sl (all H) H 7 v t.size (NDS (t.flat 0))) :
  ∃ H', ClX 13 [.agg #[v]] H (if 1024 < (prT t).length then .tuple #[.string ⟨#[]⟩, .int .i64 5] else .tuple #[.string (strOf (prT t)), .int .i64 0]) H' ∧ Keep (all H) H H' := by
 have hlen : (t.flat 0).length = t.size := Rx.flat_len t 0
 rw [← hlen] at hs
 obtain ⟨cv, ov⟩ := slc_cells hs
 obtain ⟨H1, hH1⟩ : ∃ H1, H.push ⟨[v], 1, true⟩ = H1 := ⟨_, rfl⟩
 have k1 : Keep (all H) H H1 := by rw [← hH1]; exact push_keep
 have g1 : H1.get H.n = some ⟨[v], 1, true⟩ := by rw [← hH1]; exact push_self
 have hn1 : H.n < H1.n := by rw [← hH1]; simp [push_n]
 have nv : newV (Value.cells (.agg #[v])).toList H = some (ptr H.n 0, H1) := by rw [← hH1]; exact newA (cs := [v]) (by simp [ov])
 have la : ldA 1 (ptr H.n 0) H1 = some (.agg #[v], H1) := ldAG (cs := [v]) g1 rfl
 obtain ⟨H2, c2, k2⟩ := rcheck_ok ((hs.keep k1).mono (upA k1))
 rw [hc] at c2
 have k12 := k1.trans (k2.mono (upA k1))
 have g2 : H2.get H.n = some ⟨[v], 1, true⟩ := by rw [k2.2 _ hn1]; exact g1
 have z0 : ldC (ptr H.n 0) H2 = some (v, H2) := ldG g2 rfl
 have s2 := (hs.keep k12).mono (upA k12)
 obtain ⟨H3, c3, k3⟩ := rtext_ok t 0 0 0 H2 ht (by omega) (At.self t) s2
 rw [brk_00, Nat.zero_add] at c3
 have pt := t.size_pos
 have w1 : IntKind.i64.wrap ((t.size : Int) - 1) = ((t.size - 1 : Nat) : Int) := by rw [wrap_i64 (by omega) (by omega)]; omega
 have ls : lenS v = some (.int .i64 (t.size : Int)) := by rw [hs.lenS, hlen]
 have pre : ∀ x, Ev (fun n m => iff (.bool (decide (((prT t).length : Int) > 1024))) (some (Value.tuple #[(.string ⟨#[]⟩), (.int .i64 5)], H3)) (some (.tuple #[.string (strOf (prT t)), (.int .i64 0)], H3))) x → Ev (fun n _ => AX n 13 [.agg #[v]] H) x := fun x hx => by
  refine Ev.enter (fun n => f13_eq rfl n _ _) ?_
  simp only [f13, ruZ, Int.reduceBEq, Int.reduceBNe, nv, la]
  refine Ev.callC c2 ?_
  simp only [ruZ, Int.reduceBEq, Int.reduceBNe, z0, ls, w1]
  refine Ev.callC c3 ?_
  simp only [ruZ, Int.reduceBEq, Int.reduceBNe, strOf_size]
  exact hx
 refine ⟨H3, pre _ ?_, k12.trans (k3.mono (upA k12))⟩
 by_cases h : 1024 < (prT t).length
 ·have e : (((prT t).length : Int) > 1024) = True := eq_true (by omega)
  simp only [if_pos h, ruZ, Int.reduceBEq, Int.reduceBNe, e]
  exact Ev.pure _
 ·have e : (((prT t).length : Int) > 1024) = False := eq_false (by omega)
  simp only [if_neg h, ruZ, Int.reduceBEq, Int.reduceBNe, e]
  exact Ev.pure _
theorem rprint_no {l : List Nd} {v : Value} (hc : chkN l ≠ 0) {H : Heap} (hs : Sl (all H) H 7 v l.length (NDS l)) :
  ∃ H', ClX 13 [.agg #[v]] H (.tuple #[.string ⟨#[]⟩, .int .i64 (chkN l)]) H' ∧ Keep (all H) H H' := by
 obtain ⟨cv, ov⟩ := slc_cells hs
 obtain ⟨H1, hH1⟩ : ∃ H1, H.push ⟨[v], 1, true⟩ = H1 := ⟨_, rfl⟩
 have k1 : Keep (all H) H H1 := by rw [← hH1]; exact push_keep
 have nv : newV (Value.cells (.agg #[v])).toList H = some (ptr H.n 0, H1) := by rw [← hH1]; exact newA (cs := [v]) (by simp [ov])
 have la : ldA 1 (ptr H.n 0) H1 = some (.agg #[v], H1) := ldAG (cs := [v]) (by rw [← hH1]; exact push_self) rfl
 obtain ⟨H2, c2, k2⟩ := rcheck_ok ((hs.keep k1).mono (upA k1))
 refine ⟨H2, Ev.enter (fun n => f13_eq rfl n _ _) ?_, k1.trans (k2.mono (upA k1))⟩
 simp only [f13, ruZ, Int.reduceBEq, Int.reduceBNe, nv, la]
 refine Ev.callC c2 ?_
 simp only [ruZ, Int.reduceBEq, Int.reduceBNe, i_ne, decide_eq_false hc]
 exact Ev.pure _
theorem nilBoth {l : List Nd} {v : Value} {H : Heap} {r : Value} {f : FuncId} (c : ∀ G, Keep (all H) H G → H.n < G.n → ∃ G', ClX f [.agg #[v], .slice none 0 0] G r G' ∧ Keep (all G) G G') (hs : Sl (all H) H 7 v l.length (NDS l)) :
  ∃ H1 H2, newV (Value.cells (.agg #[v])).toList H = some (ptr H.n 0, H1) ∧ ldA 1 (ptr H.n 0) H1 = some (.agg #[v], H1) ∧ ClX f [.agg #[v], .slice none 0 0] H1 r H2 ∧ Keep (all H) H H2 := by
 obtain ⟨cv, ov⟩ := slc_cells hs
 obtain ⟨H1, hH1⟩ : ∃ H1, H.push ⟨[v], 1, true⟩ = H1 := ⟨_, rfl⟩
 have k1 : Keep (all H) H H1 := by rw [← hH1]; exact push_keep
 obtain ⟨H2, c2, k2⟩ := c H1 k1 (by rw [← hH1]; simp [push_n])
 exact ⟨H1, H2, by rw [← hH1]; exact newA (cs := [v]) (by simp [ov]), ldAG (cs := [v]) (by rw [← hH1]; exact push_self) rfl, c2, k1.trans (k2.mono (upA k1))⟩
theorem rnil_ok {H : Heap} {v : Value} {t : Rx} (ht : t.size ≤ 256) (hv : Tv H v t) : ∃ H', ClX 15 [.agg #[v]] H (.tuple #[.bool (takesN (t.flat 0) []), .int .i64 0]) H' ∧ Keep (all H) H H' := by
 have hl : (t.flat 0).length = t.size := Rx.flat_len t 0
 obtain ⟨H1, H2, a1, a2, a3, a4⟩ := nilBoth (l := t.flat 0) (f := 22) (fun G k _ => rtakes_ok' (vt := .slice none 0 0) (T := []) ht (by simp) (by simp) Sl.nil (hv.keep k)) (by rw [hl]; exact hv)
 refine ⟨H2, Ev.enter (fun n => f15_eq rfl n _ _) ?_, a4⟩
 simp only [f15, ruZ, Int.reduceBEq, Int.reduceBNe, a1, a2]
 refine Ev.callC a3 ?_
 simp only [ruZ, Int.reduceBEq, Int.reduceBNe]
 exact Ev.pure _
theorem rnil_no {H : Heap} {l : List Nd} {v : Value} (hc : chkN l ≠ 0) (hs : Sl (all H) H 7 v l.length (NDS l)) : ∃ H', ClX 15 [.agg #[v]] H (.tuple #[.bool false, .int .i64 (chkN l)]) H' ∧ Keep (all H) H H' := by
 obtain ⟨H1, H2, a1, a2, a3, a4⟩ := nilBoth (l := l) (f := 22) (fun G k _ => rtakes_no (vt := .slice none 0 0) hc ((hs.keep k).mono (upA k))) hs
 refine ⟨H2, Ev.enter (fun n => f15_eq rfl n _ _) ?_, a4⟩
 simp only [f15, ruZ, Int.reduceBEq, Int.reduceBNe, a1, a2]
 refine Ev.callC a3 ?_
 simp only [ruZ, Int.reduceBEq, Int.reduceBNe]
 exact Ev.pure _
theorem nil_no {H : Heap} {l : List Nd} {v : Value} (hc : chkN l ≠ 0) (hs : Sl (all H) H 7 v l.length (NDS l)) : ∃ H', ClX 14 [.agg #[v]] H (.tuple #[.bool false, .int .i64 (chkN l)]) H' ∧ Keep (all H) H H' := by
 obtain ⟨H1, H2, a1, a2, a3, a4⟩ := nilBoth (l := l) (f := 20) (fun G k _ => takesT_no (vt := .slice none 0 0) hc ((hs.keep k).mono (upA k))) hs
 refine ⟨H2, Ev.enter (fun n => f14_eq rfl n _ _) ?_, a4⟩
 simp only [f14, ruZ, Int.reduceBEq, Int.reduceBNe, a1, a2]
 refine Ev.callC a3 ?_
 simp only [ruZ, Int.reduceBEq, Int.reduceBNe]
 exact Ev.pure _
theorem copied_ok {H : Heap} {l : List Nd} {v : Value} (hb : l.length * 56 ≤ mostBytes) (hs : Sl (all H) H 7 v l.length (NDS l)) : ∃ w H', ClX 11 [.agg #[v]] H (.agg #[w]) H' ∧ Sl (all H') H' 7 w l.length (NDS l) ∧ Keep (all H) H H' := by
 obtain ⟨cv, ov⟩ := slc_cells hs
 obtain ⟨H1, hH1⟩ : ∃ H1, H.push ⟨[v], 1, true⟩ = H1 := ⟨_, rfl⟩
 have k1 : Keep (all H) H H1 := by rw [← hH1]; exact push_keep
 have g1 : H1.get H.n = some ⟨[v], 1, true⟩ := by rw [← hH1]; exact push_self
 have n1 : H1.n = H.n + 1 := by rw [← hH1]; rfl
 obtain ⟨H2, hH2⟩ : ∃ H2, H1.push ⟨[.slice none 0 0], 1, true⟩ = H2 := ⟨_, rfl⟩
 have k2 : Keep (all H1) H1 H2 := by rw [← hH2]; exact push_keep
 have n2 : H2.n = H1.n + 1 := by rw [← hH2]; rfl
 have g2 : H2.get H1.n = some ⟨[.slice none 0 0], 1, true⟩ := by rw [← hH2]; exact push_self
 have k12 := k1.trans (k2.mono (upA k1))
 have g1' : H2.get H.n = some ⟨[v], 1, true⟩ := by rw [k2.2 _ (show H.n < H1.n by omega)]; exact g1
 have z0 : ldC (ptr H.n 0) H2 = some (v, H2) := ldG g1' rfl
 have s2 := (hs.keep k12).mono (upA k12)
 obtain ⟨w, H3, a1, a2, a3, _⟩ := (Acc.nil (R := all H2) (H := H2) (sz := 7)).appQ (by_ := 56) (Nat.le_refl _) s2.addend (by rw [NDS_len]) (by omega)
 rw [List.nil_append, Nat.zero_add] at a2
 have g3 : H3.get H1.n = some ⟨[.slice none 0 0], 1, true⟩ := by rw [a3.2 _ (show H1.n < H2.n by omega)]; exact g2
 obtain ⟨cw, ow⟩ := slc_cells a2.sl
 obtain ⟨H4, hH4⟩ : ∃ H4, H3.upd H1.n (some ⟨[w], 1, true⟩) = H4 := ⟨_, rfl⟩
 have st : stV 1 (ptr H1.n 0) (.agg #[w]) H3 = some (undef, H4) := by rw [← hH4]; exact stG (ds := [w]) g3 rfl rfl (by simp [ow])
 have k4 : Keep (fun b => b < H3.n ∧ b ≠ H1.n) H3 H4 := by rw [← hH4]; exact Keep.upd fun h => h.2 rfl
 have g4 : H4.get H1.n = some ⟨[w], 1, true⟩ := by rw [← hH4]; exact upd_self
 have n3 := a3.1
 have bw : blkOf w ≠ some H1.n := fun e => (a2.at e).1 (show H1.n < H2.n by omega)
 have sw : Sl (all H4) H4 7 w l.length (NDS l) := by
  have h0 := (a2.sl.apart bw).keep (k4.mono fun b hb => ⟨hb.1, hb.2⟩)
  exact h0.mono fun b hb => Nat.lt_of_lt_of_le hb.1 k4.1
 have bl : bld [(.slice none 0 0)] [(0, 1, w)] H3 = some (.agg #[w], H3) := by simp [bld, fillC, cw, splice]
 have la : ldA 1 (ptr H1.n 0) H4 = some (.agg #[w], H4) := ldAG (cs := [w]) g4 rfl
 refine ⟨w, H4, Ev.enter (fun n => f11_eq rfl n _ _) ?_, sw, ?_⟩
 ·have nv : newV (Value.cells (.agg #[v])).toList H = some (ptr H.n 0, H1) := by rw [← hH1]; exact newA (cs := [v]) (by simp [ov])
  have nb : newV [(.slice none 0 0)] H1 = some (ptr H1.n 0, H2) := by rw [← hH2]; exact nilbox
  simp only [f11, ruZ, Int.reduceBEq, Int.reduceBNe, nv, nb, z0, a1, bl, st, la, Option.map_some, resM1, one1]
  exact Ev.pure _
 ·exact k1.trans (((k2.trans (a3.mono (upA k2))).trans (k4.mono fun b hb => ⟨by have : b < H1.n := hb; omega, by have : b < H1.n := hb; omega⟩)).mono (upA k1))
end Go.Eng

namespace Go.Eng
open Go Go.Proofs
open Tryd (prog)

theorem printsLaw_ok {H : Heap} (hG : G9 H) {l : List Nd} {v : Value} (hs : Sl (all H) H 7 v l.length (NDS l)) (ho : ∀ n ∈ l, okN n) (hset : ∀ n ∈ l, n.set < 2 ^ 256) (hb : l.length ≤ 1048576) :
  ∃ H', ClX 3 [.agg #[v]] H (.bool true) H' ∧ Keep (all H) H H' := by
 obtain ⟨cv, ov⟩ := slc_cells hs
 have hmb : mostBytes = 140737488355328 := rfl
 obtain ⟨H1, hH1⟩ : ∃ H1, H.push ⟨[v], 1, true⟩ = H1 := ⟨_, rfl⟩
 have n1 : H1.n = H.n + 1 := by rw [← hH1]; rfl
 have k1 : Keep (all H) H H1 := by rw [← hH1]; exact push_keep
 have g1 : H1.get H.n = some ⟨[v], 1, true⟩ := by rw [← hH1]; exact push_self
 have nv : newV (Value.cells (.agg #[v])).toList H = some (ptr H.n 0, H1) := by rw [← hH1]; exact newA (cs := [v]) (by simp [ov])
 have lv : ∀ {G : Heap}, Keep (all H1) H1 G → ldA 1 (ptr H.n 0) G = some (.agg #[v], G) := fun kk => ldAG (cs := [v]) (by rw [kk.2 _ (show H.n < H1.n by omega)]; exact g1) rfl
 obtain ⟨w, H2, c2, s2, k2⟩ := copied_ok (H := H1) (by omega) ((hs.keep k1).mono (upA k1))
 obtain ⟨cw, ow⟩ := slc_cells s2
 obtain ⟨H3, hH3⟩ : ∃ H3, H2.push ⟨[.slice none 0 0], 1, true⟩ = H3 := ⟨_, rfl⟩
 have n3 : H3.n = H2.n + 1 := by rw [← hH3]; rfl
 have k3 : Keep (all H2) H2 H3 := by rw [← hH3]; exact push_keep
 have g3 : H3.get H2.n = some ⟨[.slice none 0 0], 1, true⟩ := by rw [← hH3]; exact push_self
 have nb : newV [(.slice none 0 0)] H2 = some (ptr H2.n 0, H3) := by rw [← hH3]; exact nilbox
 obtain ⟨H4, hH4⟩ : ∃ H4, H3.upd H2.n (some ⟨[w], 1, true⟩) = H4 := ⟨_, rfl⟩
 have n4 : H4.n = H3.n := by rw [← hH4]; rfl
 have g4 : H4.get H2.n = some ⟨[w], 1, true⟩ := by rw [← hH4]; exact upd_self
 have st : stV 1 (ptr H2.n 0) (.agg #[w]) H3 = some (undef, H4) := by rw [← hH4]; exact stG (ds := [w]) g3 rfl rfl (by simp [ow])
 have k34 : Keep (all H2) H3 H4 := by rw [← hH4]; exact Keep.upd fun h => by have : H2.n < H2.n := h; omega
 have k24 : Keep (all H2) H2 H4 := k3.trans k34
 have k14 : Keep (all H1) H1 H4 := k2.trans (k24.mono (upA k2))
 have k04 : Keep (all H) H H4 := k1.trans (k14.mono (upA k1))
 have lw : ∀ {G : Heap}, Keep (all H4) H4 G → ldA 1 (ptr H2.n 0) G = some (.agg #[w], G) := fun kk => ldAG (cs := [w]) (by rw [kk.2 _ (show H2.n < H4.n by omega)]; exact g4) rfl
 have lv4 : ∀ {G : Heap}, Keep (all H4) H4 G → ldA 1 (ptr H.n 0) G = some (.agg #[v], G) := fun kk => lv (k14.trans (kk.mono (upA k14)))
 have kk0 : ∀ {G : Heap}, Keep (all H4) H4 G → Keep (all H) H G := fun kk => k04.trans (kk.mono (upA k04))
 have sv : ∀ {G : Heap}, Keep (all H4) H4 G → Sl (all G) G 7 v l.length (NDS l) := fun kk => (hs.keep (kk0 kk)).mono (upA (kk0 kk))
 have sw : ∀ {G : Heap}, Keep (all H4) H4 G → Sl (all G) G 7 w l.length (NDS l) := fun kk => by
  have k2G := k24.trans (kk.mono (upA k24))
  exact (s2.keep k2G).mono (upA k2G)
 have fin : ∀ (S : ByteArray) (e : Int) (bN : Bool) (eN : Int),
   (∀ G, Keep (all H4) H4 G → ∃ G', ClX 12 [.agg #[w]] G (.tuple #[.string S, .int .i64 e]) G' ∧ Keep (all G) G G') →
   (∀ G, Keep (all H4) H4 G → ∃ G', ClX 13 [.agg #[v]] G (.tuple #[.string S, .int .i64 e]) G' ∧ Keep (all G) G G') →
   (∀ G, Keep (all H4) H4 G → ∃ G', ClX 14 [.agg #[w]] G (.tuple #[.bool bN, .int .i64 eN]) G' ∧ Keep (all G) G G') →
   (∀ G, Keep (all H4) H4 G → ∃ G', ClX 15 [.agg #[v]] G (.tuple #[.bool bN, .int .i64 eN]) G' ∧ Keep (all G) G G') →
   ∃ H', ClX 3 [.agg #[v]] H (.bool true) H' ∧ Keep (all H) H H' := by
  intro S e bN eN p1 p2 p3 p4
  obtain ⟨H5, c5, k5⟩ := p1 H4 (Keep.refl _ _)
  obtain ⟨H6, c6, k6'⟩ := p2 H5 k5
  have k6 := k5.trans (k6'.mono (upA k5))
  obtain ⟨H7, c7, k7'⟩ := p3 H6 k6
  have k7 := k6.trans (k7'.mono (upA k6))
  obtain ⟨H8, c8, k8'⟩ := p4 H7 k7
  have k8 := k7.trans (k8'.mono (upA k7))
  obtain ⟨H9, c9, k9'⟩ := check_ok (sw k8)
  have k9 := k8.trans (k9'.mono (upA k8))
  obtain ⟨H10, c10, k10'⟩ := rcheck_ok (sv k9)
  have k10 := k9.trans (k10'.mono (upA k9))
  obtain ⟨H11, c11, k11'⟩ := same_ok (sw k10) (sv k10) ho ho (by omega) (by omega)
  rw [sameB_self] at c11
  have k11 := k10.trans (k11'.mono (upA k10))
  obtain ⟨H12, c12, k12'⟩ := works_ok (hG.keep (kk0 k11))
  have k12 := k11.trans (k12'.mono (upA k11))
  have sb : sameBlk H8 H9 (blkOf (ptr H.n 0)) = true := blk_keep (by have := k8.1; have := k14.1; omega) k9'
  refine ⟨H12, Ev.enter (fun n => f3_eq rfl n _ _) ?_, kk0 k12⟩
  simp only [f3, ruZ, Int.reduceBEq, Int.reduceBNe, nv, lv (Keep.refl _ _)]
  refine Ev.callC c2 ?_
  simp only [ruZ, Int.reduceBEq, Int.reduceBNe, nb, st, lw (Keep.refl _ _)]
  refine Ev.callC c5 ?_
  simp only [ruZ, Int.reduceBEq, Int.reduceBNe, lv4 k5]
  refine Ev.callC c6 ?_
  simp only [ruZ, Int.reduceBEq, Int.reduceBNe, lw k6]
  refine Ev.callC c7 ?_
  simp only [ruZ, Int.reduceBEq, Int.reduceBNe, lv4 k7]
  refine Ev.callC c8 ?_
  simp only [ruZ, Int.reduceBEq, Int.reduceBNe, beq_self_eq_true, Bool.or_true, Bool.and_true, lw k8]
  refine Ev.callC c9 ?_
  simp only [ruZ, Int.reduceBEq, Int.reduceBNe, sb, beq_self_eq_true, Bool.or_true, Bool.and_true, lv4 k9]
  refine Ev.callC c10 ?_
  simp only [ruZ, Int.reduceBEq, Int.reduceBNe, b_boo, beq_self_eq_true, Bool.or_true, Bool.and_true, lv4 k10, lw k10]
  refine Ev.callC c11 ?_
  simp only [ruZ, Int.reduceBEq, Int.reduceBNe, Bool.or_true, Bool.and_true]
  refine Ev.callC c12 ?_
  (try simp only [ruZ, Int.reduceBEq, Int.reduceBNe, Bool.or_true, Bool.and_true])
  exact Ev.pure _
 by_cases hc : chkN l = 0
 ·obtain ⟨t, rfl, hsz, _⟩ := chk_tree hset hc
  have hl : (t.flat 0).length = t.size := Rx.flat_len t 0
  have svt : ∀ {G : Heap}, Keep (all H4) H4 G → Sl (all G) G 7 v t.size (NDS (t.flat 0)) := fun kk => by rw [← hl]; exact sv kk
  have swt : ∀ {G : Heap}, Keep (all H4) H4 G → Sl (all G) G 7 w t.size (NDS (t.flat 0)) := fun kk => by rw [← hl]; exact sw kk
  by_cases h : 1024 < (prT t).length
  ·exact fin ⟨#[]⟩ 5 (takesN (t.flat 0) []) 0
    (fun G k => by have := print_ok hsz hc (swt k) (hG.keep (kk0 k)); rwa [if_pos h] at this)
    (fun G k => by have := rprint_ok hsz hc (svt k); rwa [if_pos h] at this)
    (fun G k => nil_ok hsz (swt k)) (fun G k => rnil_ok hsz (svt k))
  ·exact fin (strOf (prT t)) 0 (takesN (t.flat 0) []) 0
    (fun G k => by have := print_ok hsz hc (swt k) (hG.keep (kk0 k)); rwa [if_neg h] at this)
    (fun G k => by have := rprint_ok hsz hc (svt k); rwa [if_neg h] at this)
    (fun G k => nil_ok hsz (swt k)) (fun G k => rnil_ok hsz (svt k))
 ·exact fin ⟨#[]⟩ (chkN l) false (chkN l) (fun G k => print_no hc (sw k)) (fun G k => rprint_no hc (sv k)) (fun G k => nil_no hc (sw k)) (fun G k => rnil_no hc (sv k))
end Go.Eng
