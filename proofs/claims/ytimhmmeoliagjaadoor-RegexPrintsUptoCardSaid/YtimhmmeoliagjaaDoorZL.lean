import Derived.Test.YtimhmmeoliagjaaDoorZK
set_option linter.unusedVariables false
set_option linter.unusedSimpArgs false
set_option linter.unusedSectionVars false
set_option maxRecDepth 100000
namespace Go.Eng
open Go Go.Proofs
open Tryd (prog)

theorem Acc.blkLt {R : Nat → Prop} {H : Heap} {sz n : Nat} {v : Value} {cs : List Value} (h : Acc R H sz v n cs) {b : Nat} (hb : blkOf v = some b) : b < H.n := by
 rcases h with ⟨rfl, _⟩ | ⟨c, rfl, _, hc, _⟩
 ·simp [blkOf] at hb
 ·simp only [blkOf, Option.some.injEq] at hb
  omega
section
variable {H0 : Heap} {t : Rx} {v vt : Value} {T : List Nat} {q2 : Nat} (hsz : t.size ≤ 256) (hT : T.length ≤ 100) (hTb : ∀ c ∈ T, c < 256) (ht : Sl (all H0) H0 1 vt T.length (B T)) (hv : Tv H0 v t) (hq : q2 < H0.n) (gq : H0.get q2 = some ⟨[v], 1, true⟩)
include hsz hT hTb ht hv hq gq
theorem rtakes_loop : ∀ (d i : Nat) (G : Heap) (vk : Value) (kv : Nat → Value) (L : Nat → Prop), i + d = t.size → Keep (all H0) H0 G → Acc (all H0) G 1 vk i ((List.range i).map kv) → (∀ q, L q → q < G.n ∧ H0.n ≤ q ∧ blkOf vk ≠ some q) →
  (∀ (x : Rx) (o : Nat), At (t.flat 0) o x → o + x.size - 1 < i → MV L G (kv (o + x.size - 1)) (T.length + 1) (matT T x)) →
  ∃ G', Ev (fun m j => f22_L0 real (AX m) m j vt (ptr q2 0) vk (.int .i64 (i : Int)) G) (.tuple #[.bool (matT T t 0 T.length), .int .i64 0], G') ∧ Keep (all H0) H0 G' := by
 have hl : (t.flat 0).length = t.size := Rx.flat_len t 0
 have pt := t.size_pos
 intro d
 induction d with
 | zero =>
  intro i G vk kv L hi kG hA hL hM
  obtain rfl : i = t.size := by omega
  have lq : ldC (ptr q2 0) G = some (v, G) := ldG (by rw [kG.2 _ hq]; exact gq) rfl
  have hm := hM t 0 (At.self t) (by omega)
  rw [Nat.zero_add] at hm
  obtain ⟨a, a1, a2⟩ := hA.sl.at1 (i := t.size - 1) (x := kv (t.size - 1)) (by rw [List.getElem?_map, List.getElem?_range (by omega)]; rfl)
  obtain ⟨p, r, p1, p2, pa⟩ := hm.at (i := 0) (by omega)
  obtain ⟨q', q1, q3⟩ := pa T.length (by omega)
  have w1 : IntKind.i64.wrap ((t.size : Int) - 1) = ((t.size - 1 : Nat) : Int) := by rw [wrap_i64 (by omega) (by omega)]; omega
  refine ⟨G, Ev.step (fun n m => f22_L0.eq_2 _ _ _ _ _ _ _ _ m) ?_, kG⟩
  have e : ((t.size : Int) < (t.size : Int)) = False := by simp
  have p1' : iAddrS 1 (kv (t.size - 1)) (.int .i64 0) = some p := p1
  simp only [ruZ, Int.reduceBEq, Int.reduceBNe, lq, hv.ld, e, w1, a1, a2, p1', p2, ht.lenS, q1, q3]
  exact Ev.pure _
 | succ d ih =>
  intro i G vk kv L hi kG hA hL hM
  have hil : i < t.size := by omega
  have lq : ldC (ptr q2 0) G = some (v, G) := ldG (by rw [kG.2 _ hq]; exact gq) rfl
  obtain ⟨p, q, hp, _, hpi, hnd, _⟩ := part_at t 0 i (At.self t) (by omega) (by omega)
  have hvG : Sl (all G) G 7 v (t.flat 0).length (NDS (t.flat 0)) := by rw [hl]; exact (Sl.keep hv kG).mono (upA kG)
  obtain ⟨b, o, c1, _, _, c2⟩ := hvG.atN (i := i) (by rw [hl]; exact hil)
  rw [NDS_cut hnd] at c2
  have hgn := kG.1
  have pp := p.size_pos
  obtain ⟨w, G1, d1, m1, k1⟩ := pieces_ok (H := G) hT hTb ((ht.keep kG).mono (upA kG)) hp hpi (by omega) hA.sl (fun x o hx ho => (hM x o hx ho).mono fun q hq => (hL q hq).1)
  have ow : w.cells = #[w] ∧ oneC w = true := by
   obtain ⟨rows, s1, _⟩ := m1
   exact slc_cells s1
  obtain ⟨G2, hG2⟩ : ∃ G2, G1.push ⟨[w], 1, true⟩ = G2 := ⟨_, rfl⟩
  have n2 : G2.n = G1.n + 1 := by rw [← hG2]; rfl
  have k2 : Keep (all G1) G1 G2 := by rw [← hG2]; exact push_keep
  have k12 := k1.trans (k2.mono (upA k1))
  have hadd : addend 1 (.slice (some ⟨G1.n, 0, none⟩) 1 1) G2 = some (1, [w]) := by rw [← hG2]; exact addend_push rfl
  have hmb : mostBytes = 140737488355328 := rfl
  have hg1 := k1.1
  obtain ⟨vk', G3, a1, a2, a3, a4, a5, _⟩ := (hA.keep k12).appQ (by_ := 24) (by omega) hadd rfl (by omega)
  have hlist : ((List.range i).map kv) ++ [w] = (List.range (i + 1)).map fun k => if k = i then w else kv k := by
   rw [List.range_succ, List.map_append]
   congr 1
   ·apply List.map_congr_left
    intro k hk
    rw [if_neg (by have := List.mem_range.1 hk; omega)]
   ·simp
  rw [hlist] at a2
  have hbk : ∀ b, blkOf vk = some b → b < G.n := fun b hb => hA.blkLt hb
  have hg3 := a4.1
  obtain ⟨G', r1, r2⟩ := ih (i + 1) G3 vk' (fun k => if k = i then w else kv k) (fun q => L q ∨ Fr G.n G1 q) (by omega) ((kG.trans (k12.mono (upA kG))).trans a3) a2 (fun q hq => by
   rcases hq with hq | hq
   ·obtain ⟨x1, x2, x3⟩ := hL q hq
    refine ⟨by omega, x2, fun hb => ?_⟩
    rcases a5 _ hb with h | h
    ·exact x3 h
    ·omega
   ·have h1 := hq.1
    have h2 := hq.2
    refine ⟨by omega, by omega, fun hb => ?_⟩
    rcases a5 _ hb with h | h
    ·have := hbk _ h; omega
    ·omega) (fun x o hx ho => by
   by_cases he : o + x.size - 1 = i
   ·have px := x.size_pos
    have hxp := hx.uniq hp (by omega)
    subst hxp
    simp only [he, if_true]
    have m2 : MV (Fr G.n G1) G3 w (T.length + 1) (matT T x) := (m1.keep (k2.mono fun q hq => hq.2)).keep (a4.mono fun q hq => ⟨by have := hq.2; omega, fun hb => by have := hbk _ hb; have := hq.1; omega⟩)
    exact m2.mono fun q hq => .inr hq
   ·simp only [he, if_false]
    have m2 := hM x o hx (by omega)
    exact ((m2.keep (k12.mono fun q hq => (hL q hq).1)).keep (a4.mono fun q hq => ⟨by have := (hL q hq).1; omega, (hL q hq).2.2⟩)).mono fun q hq => .inl hq)
  refine ⟨G', Ev.step (fun n m => f22_L0.eq_2 _ _ _ _ _ _ _ _ m) ?_, r2⟩
  have e : ((i : Int) < (t.size : Int)) = True := eq_true (by omega)
  have bl : bldS 1 1 [(.slice none 0 0)] [(0, 1, w)] G1 = some (.slice (some ⟨G1.n, 0, none⟩) 1 1, G2) := by rw [← hG2]; exact bld1 ow.2 ow.1
  simp only [ruZ, Int.reduceBEq, Int.reduceBNe, lq, hv.ld, e, c1, c2]
  refine Ev.callC d1 ?_
  simp only [ruZ, Int.reduceBEq, Int.reduceBNe, bl, a1, idx_up (show i < 9223372036854775807 by omega)]
  exact r1
end
theorem rtakes_ok' {H : Heap} {t : Rx} {v vt : Value} {T : List Nat} (hsz : t.size ≤ 256) (hT : T.length ≤ 100) (hTb : ∀ c ∈ T, c < 256) (ht : Sl (all H) H 1 vt T.length (B T)) (hv : Tv H v t) :
  ∃ H', ClX 22 [.agg #[v], vt] H (.tuple #[.bool (takesN (t.flat 0) T), .int .i64 0]) H' ∧ Keep (all H) H H' := by
 obtain ⟨cv, ov⟩ := slc_cells hv
 have hl : (t.flat 0).length = t.size := Rx.flat_len t 0
 obtain ⟨H1, hH1⟩ : ∃ H1, H.push ⟨[v], 1, true⟩ = H1 := ⟨_, rfl⟩
 have n1 : H1.n = H.n + 1 := by rw [← hH1]; rfl
 have k1 : Keep (all H) H H1 := by rw [← hH1]; exact push_keep
 have g1 : H1.get H.n = some ⟨[v], 1, true⟩ := by rw [← hH1]; exact push_self
 have nv : newV (Value.cells (.agg #[v])).toList H = some (ptr H.n 0, H1) := by rw [← hH1]; exact newA (cs := [v]) (by simp [ov])
 have la : ldA 1 (ptr H.n 0) H1 = some (.agg #[v], H1) := ldAG (cs := [v]) g1 rfl
 have v1 := hv.keep k1
 obtain ⟨H2, c2, k2⟩ := rcheck_ok (l := t.flat 0) (H := H1) (by rw [hl]; exact v1)
 rw [chk_flat hsz] at c2
 have k12 := k1.trans (k2.mono (upA k1))
 obtain ⟨G', r1, r2⟩ := rtakes_loop (H0 := H2) (q2 := H.n) hsz hT hTb ((ht.keep k12).mono (upA k12)) (hv.keep k12) (by have := k2.1; omega) (by rw [k2.2 _ (show H.n < H1.n by omega)]; exact g1) t.size 0 H2 (.slice none 0 0) (fun _ => undef) (fun _ => False) (by omega) (Keep.refl _ _) Acc.nil (fun q h => h.elim) (fun x o _ ho => by omega)
 rw [mat_takes (by omega)] at r1
 refine ⟨G', Ev.enter (fun n => f22_eq rfl n _ _ _) ?_, k12.trans (r2.mono (upA k12))⟩
 have e : ((T.length : Int) > 8192) = False := eq_false (by omega)
 simp only [f22, ruZ, Int.reduceBEq, Int.reduceBNe, nv, la]
 refine Ev.callC c2 ?_
 simp only [ruZ, Int.reduceBEq, Int.reduceBNe, ht.lenS, e]
 exact Ev.loop r1
theorem rtakes_no {H : Heap} {l : List Nd} {v vt : Value} (hc : chkN l ≠ 0) (hs : Sl (all H) H 7 v l.length (NDS l)) : ∃ H', ClX 22 [.agg #[v], vt] H (.tuple #[.bool false, .int .i64 (chkN l)]) H' ∧ Keep (all H) H H' := by
 obtain ⟨cv, ov⟩ := slc_cells hs
 obtain ⟨H1, hH1⟩ : ∃ H1, H.push ⟨[v], 1, true⟩ = H1 := ⟨_, rfl⟩
 have k1 : Keep (all H) H H1 := by rw [← hH1]; exact push_keep
 have g1 : H1.get H.n = some ⟨[v], 1, true⟩ := by rw [← hH1]; exact push_self
 have nv : newV (Value.cells (.agg #[v])).toList H = some (ptr H.n 0, H1) := by rw [← hH1]; exact newA (cs := [v]) (by simp [ov])
 have la : ldA 1 (ptr H.n 0) H1 = some (.agg #[v], H1) := ldAG (cs := [v]) g1 rfl
 obtain ⟨H2, c2, k2⟩ := rcheck_ok ((hs.keep k1).mono (upA k1))
 refine ⟨H2, Ev.enter (fun n => f22_eq rfl n _ _ _) ?_, k1.trans (k2.mono (upA k1))⟩
 simp only [f22, ruZ, Int.reduceBEq, Int.reduceBNe, nv, la]
 refine Ev.callC c2 ?_
 simp only [ruZ, Int.reduceBEq, Int.reduceBNe, i_ne, decide_eq_false hc]
 exact Ev.pure _
end Go.Eng
