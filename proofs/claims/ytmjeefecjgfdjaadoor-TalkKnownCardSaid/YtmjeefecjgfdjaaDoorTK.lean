/- Requests and replies read. -/
import Derived.Test.YtmjeefecjgfdjaaDoorTJ
set_option linter.unusedVariables false
set_option linter.unusedSimpArgs false
namespace Go.Eng
open Go Go.Proofs

def L (d : List Nat) : List UInt8 := d.map UInt8.ofNat
theorem strOf_L (d : List Nat) : strOf d = bs (L d) := rfl
theorem L_U (l : List UInt8) : L (U l) = l := by
  unfold U L
  rw [List.map_map]
  conv => rhs; rw [← List.map_id l]
  apply List.map_congr_left
  intro x hx
  exact UInt8.ofNat_toNat
theorem U_L {d : List Nat} (h : ∀ x ∈ d, x < 256) : U (L d) = d := by
  unfold U L
  rw [List.map_map]
  conv => rhs; rw [← List.map_id d]
  apply List.map_congr_left
  intro x hx
  simp only [Function.comp, id]
  show x % 256 = x
  have := h x hx
  omega
theorem L_len (d : List Nat) : (L d).length = d.length := by simp [L]
/-- What was read. -/
structure Rq where
  k : Int
  l : List UInt8
  x : List Nat
structure Re where
  k : Int
  e : Int
  a : Int
  l : List UInt8
  x : List Nat
def nA (d : List Nat) := sN (some d)
def pA (d : List Nat) := sT 32 (nA d).2
def dA (d : List Nat) := sT 8192 (pA d).2
def askedP (d : List Nat) : Rq × Int := if (dA d).2 = some [] ∧ ckA (nA d).1 (L (pA d).1) (dA d).1.length = 0 then (⟨(nA d).1, L (pA d).1, (dA d).1⟩, 0) else (⟨0, [], []⟩, 290)
def n1 (d : List Nat) := sN (some d)
def n2 (d : List Nat) := sN (n1 d).2
def n3 (d : List Nat) := sN (n2 d).2
def pB (d : List Nat) := sT 32 (n3 d).2
def dB (d : List Nat) := sT 262144 (pB d).2
def ansdP (d : List Nat) : Re × Int := if (dB d).2 = some [] ∧ ckB (n1 d).1 (n2 d).1 (n3 d).1 (L (pB d).1) (dB d).1.length = 0 then (⟨(n1 d).1, (n2 d).1, (n3 d).1, L (pB d).1, (dB d).1⟩, 0) else (⟨0, 0, 0, [], []⟩, 290)

theorem sT_len {m : Nat} {s : Option (List Nat)} : (sT m s).1.length ≤ m := by
  cases s with
  | none => simp [sT]
  | some d => exact (tT_len m d).2.2
theorem bldT {x : Value} {H : Heap} (h : x.cells = #[x]) : bld [.slice none 0 0, .bool false] [(0, 1, x)] H = some (.agg #[x, .bool false], H) := by
  simp [bld, fillC, splice, h]
theorem tk_cells {x : Value} (h : x.cells = #[x]) : (Value.agg #[x, .bool false]).cells.toList = [x, .bool false] := by
  simp [Value.cells, h]
theorem tk_new {H : Heap} {x : Value} (h : oneC x = true ∧ x.cells = #[x]) : newV (Value.agg #[x, .bool false]).cells.toList H = some (ptr H.n 0, H.push ⟨[x, .bool false], 1, true⟩) := by
  rw [tk_cells h.2]
  exact newV_box (by simp [h.1]; rfl)
theorem stA_box {H : Heap} {b n : Nat} {cs ds : List Value} (h : H.get b = some ⟨cs, 1, true⟩) (hn : cs.length = n) (hd : ds.length = n) (ho : ds.all oneC = true) : stV n (ptr b 0) (.agg ds.toArray) H = some (undef, H.upd b (some ⟨ds, 1, true⟩)) := by
  subst hn
  have e : splice cs 0 ds = ds := by simp [splice, hd]
  have h' : ds.all Value.oneCell' = true := ho
  simp only [stV, h, Value.cells, e]
  rw [if_pos]
  exact ⟨by simp [hd], h', by omega, trivial⟩
theorem ldA_upd {H : Heap} {b n : Nat} {ds : List Value} (hd : n = ds.length) : Eng.ldA n (ptr b 0) (H.upd b (some ⟨ds, 1, true⟩)) = some (.agg ds.toArray, H.upd b (some ⟨ds, 1, true⟩)) := by
  simp only [Eng.ldA, upd_self]
  rw [if_pos (by omega)]
  simp [cut, hd]
theorem c_int {k : IntKind} {n : Int} : (Value.int k n).cells = #[.int k n] := rfl
theorem c_str {s : ByteArray} : (Value.string s).cells = #[.string s] := rfl
theorem bld3q {H : Heap} {k : Int} {l : List UInt8} {w : Value} (h : w.cells = #[w]) : bld [.int .i64 0, .string ⟨#[]⟩, .slice none 0 0] [(0, 1, .int .i64 k), (1, 1, .string (bs l)), (2, 1, w)] H = some (rqV k l w, H) := by
  simp [bld, fillC, splice, h, c_int, c_str]
theorem bld5q {H : Heap} {k e a : Int} {l : List UInt8} {w : Value} (h : w.cells = #[w]) : bld [.int .i64 0, .int .i64 0, .int .i64 0, .string ⟨#[]⟩, .slice none 0 0] [(0, 1, .int .i64 k), (1, 1, .int .i64 e), (2, 1, .int .i64 a), (3, 1, .string (bs l)), (4, 1, w)] H = some (rpV k e a l w, H) := by
  simp [bld, fillC, splice, h, c_int, c_str]
theorem bld3z {H : Heap} : bld [.int .i64 0, .string ⟨#[]⟩, .slice none 0 0] [] H = some (rqV 0 [] nilS, H) := rfl
theorem bld5z {H : Heap} : bld [.int .i64 0, .int .i64 0, .int .i64 0, .string ⟨#[]⟩, .slice none 0 0] [] H = some (rpV 0 0 0 [] nilS, H) := rfl
theorem bld3k {H : Heap} {k : Int} : bld [.int .i64 0, .string ⟨#[]⟩, .slice none 0 0] [(0, 1, .int .i64 k)] H = some (rqV k [] nilS, H) := by
  simp [bld, fillC, splice, c_int]; rfl
theorem bld5k {H : Heap} {k : Int} : bld [.int .i64 0, .int .i64 0, .int .i64 0, .string ⟨#[]⟩, .slice none 0 0] [(0, 1, .int .i64 k)] H = some (rpV k 0 0 [] nilS, H) := by
  simp [bld, fillC, splice, c_int]; rfl
theorem new3z {H : Heap} : newV [.int .i64 0, .string ⟨#[]⟩, .slice none 0 0] H = some (ptr H.n 0, H.push ⟨[.int .i64 0, .string (bs []), nilS], 1, true⟩) := newV_box rfl
theorem new5z {H : Heap} : newV [.int .i64 0, .int .i64 0, .int .i64 0, .string ⟨#[]⟩, .slice none 0 0] H = some (ptr H.n 0, H.push ⟨[.int .i64 0, .int .i64 0, .int .i64 0, .string (bs []), nilS], 1, true⟩) := newV_box rfl
theorem all3 {k : Int} {l : List UInt8} {w : Value} (h : oneC w = true) : [Value.int .i64 k, .string (bs l), w].all oneC = true := by simp [h]; exact ⟨rfl, rfl⟩
theorem all5 {k e a : Int} {l : List UInt8} {w : Value} (h : oneC w = true) : [Value.int .i64 k, .int .i64 e, .int .i64 a, .string (bs l), w].all oneC = true := by simp [h]; exact ⟨rfl, rfl, rfl, rfl⟩
/-- A taker is made. -/
theorem Tk.new {H : Heap} {v : Value} {d : List Nat} {X : Nat → Prop} (h : Sl (fun b => b < H.n ∧ ¬ X b) H 1 v d.length (B d)) (hd : ∀ x ∈ d, x < 256) (hb : d.length ≤ mostBytes) : Tk X H.n (H.push ⟨[v, .bool false], 1, true⟩) (some d) := by
  refine ⟨by simp [push_n], v, d, push_self, ?_, hb, hd, fun d' h => by simpa using h⟩
  have k : Keep (fun b => b < H.n ∧ ¬ X b) H (H.push ⟨[v, .bool false], 1, true⟩) := push_keep.mono fun b hb => hb.1
  exact (h.keep k).mono fun b hb => ⟨by have := hb.1; simp only [push_n]; omega, by have := hb.1; omega, hb.2⟩
theorem Acc.blkK {H H1 H2 : Heap} {n p : Nat} {v : Value} {cs : List Value} (h : Acc (all H) H1 1 v n cs) (hp : p < H.n) (hk : Keep (fun b => b < H1.n ∧ b ≠ p) H1 H2) : sameBlk H1 H2 (blkOf v) = true :=
  (h.read (R' := fun b => b < H1.n ∧ b ≠ p) fun b h1 h2 => ⟨h2, by simp only [all] at h1; omega⟩).blk hk

theorem asked_ok {H : Heap} {v : Value} {d : List Nat} (h : By H d v) (hd : ∀ x ∈ d, x < 256) (hm : d.length ≤ mostBytes) :
    ∃ w H', Cl 23 [v] H (.tuple #[rqV (askedP d).1.k (askedP d).1.l w, .int .i64 (askedP d).2]) H' ∧ Acc (all H) H' 1 w (askedP d).1.x.length (B (askedP d).1.x) ∧ Keep (all H) H H' := by
  have k1 : Keep (all H) H (H.push ⟨[.int .i64 0, .string (bs []), nilS], 1, true⟩) := push_keep
  have g1 : (H.push ⟨[.int .i64 0, .string (bs []), nilS], 1, true⟩).get H.n = some ⟨[.int .i64 0, .string (bs []), nilS], 1, true⟩ := push_self
  have hlt : H.n < (H.push ⟨[.int .i64 0, .string (bs []), nilS], 1, true⟩).n := by simp [push_n]
  have hv1 := h.up k1
  generalize hH1 : H.push ⟨[.int .i64 0, .string (bs []), nilS], 1, true⟩ = H1 at *
  have k2 : Keep (all H1) H1 (H1.push ⟨[v, .bool false], 1, true⟩) := push_keep
  have t2 : Tk (fun _ => False) H1.n (H1.push ⟨[v, .bool false], 1, true⟩) (some d) := Tk.new (hv1.mono fun b hb => ⟨hb, id⟩) hd hm
  have hp2 : H1.n < (H1.push ⟨[v, .bool false], 1, true⟩).n := by simp [push_n]
  generalize hH2 : H1.push ⟨[v, .bool false], 1, true⟩ = H2 at *
  obtain ⟨Hn0, a01, a02, a03⟩ := number_ok t2 (fun _ h => h.elim)
  obtain ⟨u, H4, b1, b2, b3, b4⟩ := text1_ok (m := 32) a02 (fun _ h => h.elim)
  obtain ⟨w, H5, c1, c2, c3, c4⟩ := text1_ok (m := 8192) b3 (fun _ h => h.elim)
  have hle : H2.n ≤ Hn0.n := a03.1
  have hs : sameBlk H4 H5 (blkOf u) = true := b2.blkK (Nat.lt_of_lt_of_le hp2 hle) c4
  have hwc := c2.oneC
  have hto : toStr u H4 = some (.string (bs (L (pA d).1)), H4) := toStr_sl b2.sl
  have k6 : Keep (all H5) H5 (H5.push ⟨[.int .i64 (nA d).1, .string (bs (L (pA d).1)), w], 1, true⟩) := push_keep
  have hb6 : Box (all (H5.push ⟨[.int .i64 (nA d).1, .string (bs (L (pA d).1)), w], 1, true⟩)) (H5.push ⟨[.int .i64 (nA d).1, .string (bs (L (pA d).1)), w], 1, true⟩) H5.n [.int .i64 (nA d).1, .string (bs (L (pA d).1)), w] := push_boxA
  have hst : stV 3 (ptr H5.n 0) (rqV (nA d).1 (L (pA d).1) w) (H5.push ⟨[.int .i64 0, .string (bs []), nilS], 1, true⟩) = some (undef, H5.push ⟨[.int .i64 (nA d).1, .string (bs (L (pA d).1)), w], 1, true⟩) := stA_push (ds := [.int .i64 (nA d).1, .string (bs (L (pA d).1)), w]) rfl rfl (all3 hwc.1)
  have t6 : Tk (fun _ => False) H1.n (H5.push ⟨[.int .i64 (nA d).1, .string (bs (L (pA d).1)), w], 1, true⟩) (dA d).2 := c3.keep id (k6.mono fun b hb => hb.1)
  have hw6 : Sl (all (H5.push ⟨[.int .i64 (nA d).1, .string (bs (L (pA d).1)), w], 1, true⟩)) (H5.push ⟨[.int .i64 (nA d).1, .string (bs (L (pA d).1)), w], 1, true⟩) 1 w (dA d).1.length (B (dA d).1) := c2.sl.up k6
  have hw6' : Acc (all H4) (H5.push ⟨[.int .i64 (nA d).1, .string (bs (L (pA d).1)), w], 1, true⟩) 1 w (dA d).1.length (B (dA d).1) := c2.push
  have hH4 : H2.n ≤ H4.n := Nat.le_trans hle b4.1
  have hH5 : H2.n ≤ H5.n := Nat.le_trans hH4 c4.1
  have K : Keep (fun b => b < H2.n ∧ b ≠ H1.n) H2 (H5.push ⟨[.int .i64 (nA d).1, .string (bs (L (pA d).1)), w], 1, true⟩) := by
    have q0 : Keep (fun b => b < H2.n ∧ b ≠ H1.n) H2 H2 := Keep.refl _ _
    have q1 := q0.trans (a03.mono fun b hb => ⟨Nat.lt_of_lt_of_le hb.1 q0.1, hb.2⟩)
    have q2 := q1.trans (b4.mono fun b hb => ⟨Nat.lt_of_lt_of_le hb.1 q1.1, hb.2⟩)
    have q3 := q2.trans (c4.mono fun b hb => ⟨Nat.lt_of_lt_of_le hb.1 q2.1, hb.2⟩)
    exact q3.trans (k6.mono fun b hb => Nat.lt_of_lt_of_le hb.1 q3.1)
  generalize hH6 : H5.push ⟨[.int .i64 (nA d).1, .string (bs (L (pA d).1)), w], 1, true⟩ = H6 at *
  have hll : (L (pA d).1).length ≤ 32 := by rw [L_len]; exact sT_len
  obtain ⟨H7, d1, d2⟩ := ask_may (k := (nA d).1) (l := L (pA d).1) hw6 (by omega)
  have K1 : Keep (fun b => b < H2.n ∧ b ≠ H1.n) H2 H7 := K.trans (d2.mono fun b hb => Nat.lt_of_lt_of_le hb.1 K.1)
  have get6 : H6.get H.n = some ⟨[.int .i64 0, .string (bs []), nilS], 1, true⟩ := by rw [K.2 H.n ⟨by omega, by omega⟩, k2.2 H.n hlt]; exact g1
  have get7 : H7.get H.n = some ⟨[.int .i64 0, .string (bs []), nilS], 1, true⟩ := by rw [K1.2 H.n ⟨by omega, by omega⟩, k2.2 H.n hlt]; exact g1
  have KH : ∀ (X : Heap) (bk : Option Blk), Keep (fun b => b < H2.n ∧ b ≠ H1.n) H2 X → Keep (all H) H (X.upd H.n bk) := fun X bk hX =>
    (k1.trans ((k2.mono fun b hb => Nat.lt_of_lt_of_le hb k1.1).trans (hX.mono fun b hb => ⟨by have : b < H.n := hb; omega, by have : b < H.n := hb; omega⟩))).trans (Keep.upd fun h => Nat.lt_irrefl _ h)
  have hlow : ∀ b, all H b → all H4 b := fun b hb => by have : b < H.n := hb; show b < H4.n; omega
  have stz : ∀ (X : Heap), X.get H.n = some ⟨[.int .i64 0, .string (bs []), nilS], 1, true⟩ → stV 3 (ptr H.n 0) (rqV 0 [] nilS) X = some (undef, X.upd H.n (some ⟨[.int .i64 0, .string (bs []), nilS], 1, true⟩)) := fun X hX => stA_box (ds := [.int .i64 0, .string (bs []), nilS]) hX rfl rfl rfl
  have ldz : ∀ (X : Heap), ldA 3 (ptr H.n 0) (X.upd H.n (some ⟨[.int .i64 0, .string (bs []), nilS], 1, true⟩)) = some (rqV 0 [] nilS, X.upd H.n (some ⟨[.int .i64 0, .string (bs []), nilS], 1, true⟩)) := fun X => ldA_upd (ds := [.int .i64 0, .string (bs []), nilS]) rfl
  by_cases he : (dA d).2 = some []
  · have e1 : decide ((dA d).2 = some []) = true := decide_eq_true he
    by_cases h0 : ckA (nA d).1 (L (pA d).1) (dA d).1.length = 0
    · have hP : askedP d = (⟨(nA d).1, L (pA d).1, (dA d).1⟩, 0) := by simp [askedP, he, h0]
      have hst7 : stV 3 (ptr H.n 0) (.agg ([.int .i64 (nA d).1, .string (bs (L (pA d).1)), w]).toArray) H7 = some (undef, H7.upd H.n (some ⟨[.int .i64 (nA d).1, .string (bs (L (pA d).1)), w], 1, true⟩)) := stA_box get7 rfl rfl (all3 hwc.1)
      have hld7 := ldA_upd (H := H7) (b := H.n) (n := 3) (ds := [.int .i64 (nA d).1, .string (bs (L (pA d).1)), w]) rfl
      rw [hP]
      refine ⟨w, H7.upd H.n (some ⟨[.int .i64 (nA d).1, .string (bs (L (pA d).1)), w], 1, true⟩), ?_, (((hw6'.keep d2).past (c := H.n) (by omega) upd_past)).low hlow, KH _ _ K1⟩
      refine Ev.enter (fun n => f23_eq rfl n _ _) ?_
      simp only [f23, real_b, real_i, real_c, chk_t, bnd_some, bnd_up, iff_t, iff_f, gd_t, gd_f, wd_b, wd_u, pick_t, pick_f, b_lss, b_leq, b_gtr, b_geq, b_eql, b_neq, b_seql, b_sneq, b_add, b_sub, u_not, nilC_ptr, fAddr_ptr, Nat.zero_add, extr0, extr1, extr2, lenStr, decide_true, decide_false, bt_tt, bt_tf, bt_ft, bt_ff, bt_bne, Bool.not_true, Bool.not_false, Int.reduceBEq, Int.reduceBNe, extr30, extr31, new3z, hH1, bldT h.oneC.2, tk_new h.oneC, hH2]
      refine Ev.callC a01 ?_
      refine Ev.callC b1 ?_
      simp only [real_b, real_i, real_c, chk_t, bnd_some, bnd_up, iff_t, iff_f, gd_t, gd_f, wd_b, wd_u, pick_t, pick_f, b_lss, b_leq, b_gtr, b_geq, b_eql, b_neq, b_seql, b_sneq, b_add, b_sub, u_not, nilC_ptr, fAddr_ptr, Nat.zero_add, extr0, extr1, extr2, lenStr, decide_true, decide_false, bt_tt, bt_tf, bt_ft, bt_ff, bt_bne, Bool.not_true, Bool.not_false, Int.reduceBEq, Int.reduceBNe, extr30, extr31, hto]
      refine Ev.callC c1 ?_
      simp only [real_b, real_i, real_c, chk_t, bnd_some, bnd_up, iff_t, iff_f, gd_t, gd_f, wd_b, wd_u, pick_t, pick_f, b_lss, b_leq, b_gtr, b_geq, b_eql, b_neq, b_seql, b_sneq, b_add, b_sub, u_not, nilC_ptr, fAddr_ptr, Nat.zero_add, extr0, extr1, extr2, lenStr, decide_true, decide_false, bt_tt, bt_tf, bt_ft, bt_ff, bt_bne, Bool.not_true, Bool.not_false, Int.reduceBEq, Int.reduceBNe, extr30, extr31, show (sN (some d)).1 = (nA d).1 from rfl, hs, Bool.and_true, bld3q hwc.2, new3z, hst, hH6]
      refine Ev.callC (ends_ok t6) ?_
      rw [e1]
      simp only [real_b, real_i, real_c, chk_t, bnd_some, bnd_up, iff_t, iff_f, gd_t, gd_f, wd_b, wd_u, pick_t, pick_f, b_lss, b_leq, b_gtr, b_geq, b_eql, b_neq, b_seql, b_sneq, b_add, b_sub, u_not, nilC_ptr, fAddr_ptr, Nat.zero_add, extr0, extr1, extr2, lenStr, decide_true, decide_false, bt_tt, bt_tf, bt_ft, bt_ff, bt_bne, Bool.not_true, Bool.not_false, Int.reduceBEq, Int.reduceBNe, extr30, extr31, hb6.all (n := 3) rfl]
      refine Ev.callC d1 ?_
      rw [h0]
      simp only [real_b, real_i, real_c, chk_t, bnd_some, bnd_up, iff_t, iff_f, gd_t, gd_f, wd_b, wd_u, pick_t, pick_f, b_lss, b_leq, b_gtr, b_geq, b_eql, b_neq, b_seql, b_sneq, b_add, b_sub, u_not, nilC_ptr, fAddr_ptr, Nat.zero_add, extr0, extr1, extr2, lenStr, decide_true, decide_false, bt_tt, bt_tf, bt_ft, bt_ff, bt_bne, Bool.not_true, Bool.not_false, Int.reduceBEq, Int.reduceBNe, extr30, extr31, (hb6.keep d2).all (n := 3) rfl, hst7, hld7, Option.map_some, resM2, one2]
      exact Ev.pure _
    · have hP : askedP d = (⟨0, [], []⟩, 290) := by simp [askedP, h0]
      have e2 : (ckA (nA d).1 (L (pA d).1) (dA d).1.length != 0) = true := by simpa using h0
      rw [hP]
      refine ⟨nilS, H7.upd H.n (some ⟨[.int .i64 0, .string (bs []), nilS], 1, true⟩), ?_, Acc.nil, KH _ _ K1⟩
      refine Ev.enter (fun n => f23_eq rfl n _ _) ?_
      simp only [f23, real_b, real_i, real_c, chk_t, bnd_some, bnd_up, iff_t, iff_f, gd_t, gd_f, wd_b, wd_u, pick_t, pick_f, b_lss, b_leq, b_gtr, b_geq, b_eql, b_neq, b_seql, b_sneq, b_add, b_sub, u_not, nilC_ptr, fAddr_ptr, Nat.zero_add, extr0, extr1, extr2, lenStr, decide_true, decide_false, bt_tt, bt_tf, bt_ft, bt_ff, bt_bne, Bool.not_true, Bool.not_false, Int.reduceBEq, Int.reduceBNe, extr30, extr31, new3z, hH1, bldT h.oneC.2, tk_new h.oneC, hH2]
      refine Ev.callC a01 ?_
      refine Ev.callC b1 ?_
      simp only [real_b, real_i, real_c, chk_t, bnd_some, bnd_up, iff_t, iff_f, gd_t, gd_f, wd_b, wd_u, pick_t, pick_f, b_lss, b_leq, b_gtr, b_geq, b_eql, b_neq, b_seql, b_sneq, b_add, b_sub, u_not, nilC_ptr, fAddr_ptr, Nat.zero_add, extr0, extr1, extr2, lenStr, decide_true, decide_false, bt_tt, bt_tf, bt_ft, bt_ff, bt_bne, Bool.not_true, Bool.not_false, Int.reduceBEq, Int.reduceBNe, extr30, extr31, hto]
      refine Ev.callC c1 ?_
      simp only [real_b, real_i, real_c, chk_t, bnd_some, bnd_up, iff_t, iff_f, gd_t, gd_f, wd_b, wd_u, pick_t, pick_f, b_lss, b_leq, b_gtr, b_geq, b_eql, b_neq, b_seql, b_sneq, b_add, b_sub, u_not, nilC_ptr, fAddr_ptr, Nat.zero_add, extr0, extr1, extr2, lenStr, decide_true, decide_false, bt_tt, bt_tf, bt_ft, bt_ff, bt_bne, Bool.not_true, Bool.not_false, Int.reduceBEq, Int.reduceBNe, extr30, extr31, show (sN (some d)).1 = (nA d).1 from rfl, hs, Bool.and_true, bld3q hwc.2, new3z, hst, hH6]
      refine Ev.callC (ends_ok t6) ?_
      rw [e1]
      simp only [real_b, real_i, real_c, chk_t, bnd_some, bnd_up, iff_t, iff_f, gd_t, gd_f, wd_b, wd_u, pick_t, pick_f, b_lss, b_leq, b_gtr, b_geq, b_eql, b_neq, b_seql, b_sneq, b_add, b_sub, u_not, nilC_ptr, fAddr_ptr, Nat.zero_add, extr0, extr1, extr2, lenStr, decide_true, decide_false, bt_tt, bt_tf, bt_ft, bt_ff, bt_bne, Bool.not_true, Bool.not_false, Int.reduceBEq, Int.reduceBNe, extr30, extr31, hb6.all (n := 3) rfl]
      refine Ev.callC d1 ?_
      simp only [real_b, real_i, real_c, chk_t, bnd_some, bnd_up, iff_t, iff_f, gd_t, gd_f, wd_b, wd_u, pick_t, pick_f, b_lss, b_leq, b_gtr, b_geq, b_eql, b_neq, b_seql, b_sneq, b_add, b_sub, u_not, nilC_ptr, fAddr_ptr, Nat.zero_add, extr0, extr1, extr2, lenStr, decide_true, decide_false, bt_tt, bt_tf, bt_ft, bt_ff, bt_bne, Bool.not_true, Bool.not_false, Int.reduceBEq, Int.reduceBNe, extr30, extr31, e2, bld3z, stz _ get7, ldz, Option.map_some, resM2, one2]
      exact Ev.pure _
  · have e1 : decide ((dA d).2 = some []) = false := decide_eq_false he
    have hP : askedP d = (⟨0, [], []⟩, 290) := by simp [askedP, he]
    rw [hP]
    refine ⟨nilS, H6.upd H.n (some ⟨[.int .i64 0, .string (bs []), nilS], 1, true⟩), ?_, Acc.nil, KH _ _ K⟩
    refine Ev.enter (fun n => f23_eq rfl n _ _) ?_
    simp only [f23, real_b, real_i, real_c, chk_t, bnd_some, bnd_up, iff_t, iff_f, gd_t, gd_f, wd_b, wd_u, pick_t, pick_f, b_lss, b_leq, b_gtr, b_geq, b_eql, b_neq, b_seql, b_sneq, b_add, b_sub, u_not, nilC_ptr, fAddr_ptr, Nat.zero_add, extr0, extr1, extr2, lenStr, decide_true, decide_false, bt_tt, bt_tf, bt_ft, bt_ff, bt_bne, Bool.not_true, Bool.not_false, Int.reduceBEq, Int.reduceBNe, extr30, extr31, new3z, hH1, bldT h.oneC.2, tk_new h.oneC, hH2]
    refine Ev.callC a01 ?_
    refine Ev.callC b1 ?_
    simp only [real_b, real_i, real_c, chk_t, bnd_some, bnd_up, iff_t, iff_f, gd_t, gd_f, wd_b, wd_u, pick_t, pick_f, b_lss, b_leq, b_gtr, b_geq, b_eql, b_neq, b_seql, b_sneq, b_add, b_sub, u_not, nilC_ptr, fAddr_ptr, Nat.zero_add, extr0, extr1, extr2, lenStr, decide_true, decide_false, bt_tt, bt_tf, bt_ft, bt_ff, bt_bne, Bool.not_true, Bool.not_false, Int.reduceBEq, Int.reduceBNe, extr30, extr31, hto]
    refine Ev.callC c1 ?_
    simp only [real_b, real_i, real_c, chk_t, bnd_some, bnd_up, iff_t, iff_f, gd_t, gd_f, wd_b, wd_u, pick_t, pick_f, b_lss, b_leq, b_gtr, b_geq, b_eql, b_neq, b_seql, b_sneq, b_add, b_sub, u_not, nilC_ptr, fAddr_ptr, Nat.zero_add, extr0, extr1, extr2, lenStr, decide_true, decide_false, bt_tt, bt_tf, bt_ft, bt_ff, bt_bne, Bool.not_true, Bool.not_false, Int.reduceBEq, Int.reduceBNe, extr30, extr31, show (sN (some d)).1 = (nA d).1 from rfl, hs, Bool.and_true, bld3q hwc.2, new3z, hst, hH6]
    refine Ev.callC (ends_ok t6) ?_
    rw [e1]
    simp only [real_b, real_i, real_c, chk_t, bnd_some, bnd_up, iff_t, iff_f, gd_t, gd_f, wd_b, wd_u, pick_t, pick_f, b_lss, b_leq, b_gtr, b_geq, b_eql, b_neq, b_seql, b_sneq, b_add, b_sub, u_not, nilC_ptr, fAddr_ptr, Nat.zero_add, extr0, extr1, extr2, lenStr, decide_true, decide_false, bt_tt, bt_tf, bt_ft, bt_ff, bt_bne, Bool.not_true, Bool.not_false, Int.reduceBEq, Int.reduceBNe, extr30, extr31, bld3z, stz _ get6, ldz, Option.map_some, resM2, one2]
    exact Ev.pure _
theorem ansd_ok {H : Heap} {v : Value} {d : List Nat} (h : By H d v) (hd : ∀ x ∈ d, x < 256) (hm : d.length ≤ mostBytes) :
    ∃ w H', Cl 25 [v] H (.tuple #[rpV (ansdP d).1.k (ansdP d).1.e (ansdP d).1.a (ansdP d).1.l w, .int .i64 (ansdP d).2]) H' ∧ Acc (all H) H' 1 w (ansdP d).1.x.length (B (ansdP d).1.x) ∧ Keep (all H) H H' := by
  have k1 : Keep (all H) H (H.push ⟨[.int .i64 0, .int .i64 0, .int .i64 0, .string (bs []), nilS], 1, true⟩) := push_keep
  have g1 : (H.push ⟨[.int .i64 0, .int .i64 0, .int .i64 0, .string (bs []), nilS], 1, true⟩).get H.n = some ⟨[.int .i64 0, .int .i64 0, .int .i64 0, .string (bs []), nilS], 1, true⟩ := push_self
  have hlt : H.n < (H.push ⟨[.int .i64 0, .int .i64 0, .int .i64 0, .string (bs []), nilS], 1, true⟩).n := by simp [push_n]
  have hv1 := h.up k1
  generalize hH1 : H.push ⟨[.int .i64 0, .int .i64 0, .int .i64 0, .string (bs []), nilS], 1, true⟩ = H1 at *
  have k2 : Keep (all H1) H1 (H1.push ⟨[v, .bool false], 1, true⟩) := push_keep
  have t2 : Tk (fun _ => False) H1.n (H1.push ⟨[v, .bool false], 1, true⟩) (some d) := Tk.new (hv1.mono fun b hb => ⟨hb, id⟩) hd hm
  have hp2 : H1.n < (H1.push ⟨[v, .bool false], 1, true⟩).n := by simp [push_n]
  generalize hH2 : H1.push ⟨[v, .bool false], 1, true⟩ = H2 at *
  obtain ⟨Hn0, a01, a02, a03⟩ := number_ok t2 (fun _ h => h.elim)
  obtain ⟨Hn1, a11, a12, a13⟩ := number_ok a02 (fun _ h => h.elim)
  obtain ⟨Hn2, a21, a22, a23⟩ := number_ok a12 (fun _ h => h.elim)
  obtain ⟨u, H4, b1, b2, b3, b4⟩ := text1_ok (m := 32) a22 (fun _ h => h.elim)
  obtain ⟨w, H5, c1, c2, c3, c4⟩ := text1_ok (m := 262144) b3 (fun _ h => h.elim)
  have hle : H2.n ≤ Hn2.n := Nat.le_trans (Nat.le_trans (a03.1) a13.1) a23.1
  have hs : sameBlk H4 H5 (blkOf u) = true := b2.blkK (Nat.lt_of_lt_of_le hp2 hle) c4
  have hwc := c2.oneC
  have hto : toStr u H4 = some (.string (bs (L (pB d).1)), H4) := toStr_sl b2.sl
  have k6 : Keep (all H5) H5 (H5.push ⟨[.int .i64 (n1 d).1, .int .i64 (n2 d).1, .int .i64 (n3 d).1, .string (bs (L (pB d).1)), w], 1, true⟩) := push_keep
  have hb6 : Box (all (H5.push ⟨[.int .i64 (n1 d).1, .int .i64 (n2 d).1, .int .i64 (n3 d).1, .string (bs (L (pB d).1)), w], 1, true⟩)) (H5.push ⟨[.int .i64 (n1 d).1, .int .i64 (n2 d).1, .int .i64 (n3 d).1, .string (bs (L (pB d).1)), w], 1, true⟩) H5.n [.int .i64 (n1 d).1, .int .i64 (n2 d).1, .int .i64 (n3 d).1, .string (bs (L (pB d).1)), w] := push_boxA
  have hst : stV 5 (ptr H5.n 0) (rpV (n1 d).1 (n2 d).1 (n3 d).1 (L (pB d).1) w) (H5.push ⟨[.int .i64 0, .int .i64 0, .int .i64 0, .string (bs []), nilS], 1, true⟩) = some (undef, H5.push ⟨[.int .i64 (n1 d).1, .int .i64 (n2 d).1, .int .i64 (n3 d).1, .string (bs (L (pB d).1)), w], 1, true⟩) := stA_push (ds := [.int .i64 (n1 d).1, .int .i64 (n2 d).1, .int .i64 (n3 d).1, .string (bs (L (pB d).1)), w]) rfl rfl (all5 hwc.1)
  have t6 : Tk (fun _ => False) H1.n (H5.push ⟨[.int .i64 (n1 d).1, .int .i64 (n2 d).1, .int .i64 (n3 d).1, .string (bs (L (pB d).1)), w], 1, true⟩) (dB d).2 := c3.keep id (k6.mono fun b hb => hb.1)
  have hw6 : Sl (all (H5.push ⟨[.int .i64 (n1 d).1, .int .i64 (n2 d).1, .int .i64 (n3 d).1, .string (bs (L (pB d).1)), w], 1, true⟩)) (H5.push ⟨[.int .i64 (n1 d).1, .int .i64 (n2 d).1, .int .i64 (n3 d).1, .string (bs (L (pB d).1)), w], 1, true⟩) 1 w (dB d).1.length (B (dB d).1) := c2.sl.up k6
  have hw6' : Acc (all H4) (H5.push ⟨[.int .i64 (n1 d).1, .int .i64 (n2 d).1, .int .i64 (n3 d).1, .string (bs (L (pB d).1)), w], 1, true⟩) 1 w (dB d).1.length (B (dB d).1) := c2.push
  have hH4 : H2.n ≤ H4.n := Nat.le_trans hle b4.1
  have hH5 : H2.n ≤ H5.n := Nat.le_trans hH4 c4.1
  have K : Keep (fun b => b < H2.n ∧ b ≠ H1.n) H2 (H5.push ⟨[.int .i64 (n1 d).1, .int .i64 (n2 d).1, .int .i64 (n3 d).1, .string (bs (L (pB d).1)), w], 1, true⟩) := by
    have q0 : Keep (fun b => b < H2.n ∧ b ≠ H1.n) H2 H2 := Keep.refl _ _
    have q1 := q0.trans (a03.mono fun b hb => ⟨Nat.lt_of_lt_of_le hb.1 q0.1, hb.2⟩)
    have q2 := q1.trans (a13.mono fun b hb => ⟨Nat.lt_of_lt_of_le hb.1 q1.1, hb.2⟩)
    have q3 := q2.trans (a23.mono fun b hb => ⟨Nat.lt_of_lt_of_le hb.1 q2.1, hb.2⟩)
    have q4 := q3.trans (b4.mono fun b hb => ⟨Nat.lt_of_lt_of_le hb.1 q3.1, hb.2⟩)
    have q5 := q4.trans (c4.mono fun b hb => ⟨Nat.lt_of_lt_of_le hb.1 q4.1, hb.2⟩)
    exact q5.trans (k6.mono fun b hb => Nat.lt_of_lt_of_le hb.1 q5.1)
  generalize hH6 : H5.push ⟨[.int .i64 (n1 d).1, .int .i64 (n2 d).1, .int .i64 (n3 d).1, .string (bs (L (pB d).1)), w], 1, true⟩ = H6 at *
  have hll : (L (pB d).1).length ≤ 32 := by rw [L_len]; exact sT_len
  obtain ⟨H7, d1, d2⟩ := ans_may (k := (n1 d).1) (e := (n2 d).1) (a := (n3 d).1) (l := L (pB d).1) hw6
  have K1 : Keep (fun b => b < H2.n ∧ b ≠ H1.n) H2 H7 := K.trans (d2.mono fun b hb => Nat.lt_of_lt_of_le hb.1 K.1)
  have get6 : H6.get H.n = some ⟨[.int .i64 0, .int .i64 0, .int .i64 0, .string (bs []), nilS], 1, true⟩ := by rw [K.2 H.n ⟨by omega, by omega⟩, k2.2 H.n hlt]; exact g1
  have get7 : H7.get H.n = some ⟨[.int .i64 0, .int .i64 0, .int .i64 0, .string (bs []), nilS], 1, true⟩ := by rw [K1.2 H.n ⟨by omega, by omega⟩, k2.2 H.n hlt]; exact g1
  have KH : ∀ (X : Heap) (bk : Option Blk), Keep (fun b => b < H2.n ∧ b ≠ H1.n) H2 X → Keep (all H) H (X.upd H.n bk) := fun X bk hX =>
    (k1.trans ((k2.mono fun b hb => Nat.lt_of_lt_of_le hb k1.1).trans (hX.mono fun b hb => ⟨by have : b < H.n := hb; omega, by have : b < H.n := hb; omega⟩))).trans (Keep.upd fun h => Nat.lt_irrefl _ h)
  have hlow : ∀ b, all H b → all H4 b := fun b hb => by have : b < H.n := hb; show b < H4.n; omega
  have stz : ∀ (X : Heap), X.get H.n = some ⟨[.int .i64 0, .int .i64 0, .int .i64 0, .string (bs []), nilS], 1, true⟩ → stV 5 (ptr H.n 0) (rpV 0 0 0 [] nilS) X = some (undef, X.upd H.n (some ⟨[.int .i64 0, .int .i64 0, .int .i64 0, .string (bs []), nilS], 1, true⟩)) := fun X hX => stA_box (ds := [.int .i64 0, .int .i64 0, .int .i64 0, .string (bs []), nilS]) hX rfl rfl rfl
  have ldz : ∀ (X : Heap), ldA 5 (ptr H.n 0) (X.upd H.n (some ⟨[.int .i64 0, .int .i64 0, .int .i64 0, .string (bs []), nilS], 1, true⟩)) = some (rpV 0 0 0 [] nilS, X.upd H.n (some ⟨[.int .i64 0, .int .i64 0, .int .i64 0, .string (bs []), nilS], 1, true⟩)) := fun X => ldA_upd (ds := [.int .i64 0, .int .i64 0, .int .i64 0, .string (bs []), nilS]) rfl
  by_cases he : (dB d).2 = some []
  · have e1 : decide ((dB d).2 = some []) = true := decide_eq_true he
    by_cases h0 : ckB (n1 d).1 (n2 d).1 (n3 d).1 (L (pB d).1) (dB d).1.length = 0
    · have hP : ansdP d = (⟨(n1 d).1, (n2 d).1, (n3 d).1, L (pB d).1, (dB d).1⟩, 0) := by simp [ansdP, he, h0]
      have hst7 : stV 5 (ptr H.n 0) (.agg ([.int .i64 (n1 d).1, .int .i64 (n2 d).1, .int .i64 (n3 d).1, .string (bs (L (pB d).1)), w]).toArray) H7 = some (undef, H7.upd H.n (some ⟨[.int .i64 (n1 d).1, .int .i64 (n2 d).1, .int .i64 (n3 d).1, .string (bs (L (pB d).1)), w], 1, true⟩)) := stA_box get7 rfl rfl (all5 hwc.1)
      have hld7 := ldA_upd (H := H7) (b := H.n) (n := 5) (ds := [.int .i64 (n1 d).1, .int .i64 (n2 d).1, .int .i64 (n3 d).1, .string (bs (L (pB d).1)), w]) rfl
      rw [hP]
      refine ⟨w, H7.upd H.n (some ⟨[.int .i64 (n1 d).1, .int .i64 (n2 d).1, .int .i64 (n3 d).1, .string (bs (L (pB d).1)), w], 1, true⟩), ?_, (((hw6'.keep d2).past (c := H.n) (by omega) upd_past)).low hlow, KH _ _ K1⟩
      refine Ev.enter (fun n => f25_eq rfl n _ _) ?_
      simp only [f25, real_b, real_i, real_c, chk_t, bnd_some, bnd_up, iff_t, iff_f, gd_t, gd_f, wd_b, wd_u, pick_t, pick_f, b_lss, b_leq, b_gtr, b_geq, b_eql, b_neq, b_seql, b_sneq, b_add, b_sub, u_not, nilC_ptr, fAddr_ptr, Nat.zero_add, extr0, extr1, extr2, lenStr, decide_true, decide_false, bt_tt, bt_tf, bt_ft, bt_ff, bt_bne, Bool.not_true, Bool.not_false, Int.reduceBEq, Int.reduceBNe, extr30, extr31, new5z, hH1, bldT h.oneC.2, tk_new h.oneC, hH2]
      refine Ev.callC a01 ?_
      refine Ev.callC a11 ?_
      refine Ev.callC a21 ?_
      refine Ev.callC b1 ?_
      simp only [real_b, real_i, real_c, chk_t, bnd_some, bnd_up, iff_t, iff_f, gd_t, gd_f, wd_b, wd_u, pick_t, pick_f, b_lss, b_leq, b_gtr, b_geq, b_eql, b_neq, b_seql, b_sneq, b_add, b_sub, u_not, nilC_ptr, fAddr_ptr, Nat.zero_add, extr0, extr1, extr2, lenStr, decide_true, decide_false, bt_tt, bt_tf, bt_ft, bt_ff, bt_bne, Bool.not_true, Bool.not_false, Int.reduceBEq, Int.reduceBNe, extr30, extr31, hto]
      refine Ev.callC c1 ?_
      simp only [real_b, real_i, real_c, chk_t, bnd_some, bnd_up, iff_t, iff_f, gd_t, gd_f, wd_b, wd_u, pick_t, pick_f, b_lss, b_leq, b_gtr, b_geq, b_eql, b_neq, b_seql, b_sneq, b_add, b_sub, u_not, nilC_ptr, fAddr_ptr, Nat.zero_add, extr0, extr1, extr2, lenStr, decide_true, decide_false, bt_tt, bt_tf, bt_ft, bt_ff, bt_bne, Bool.not_true, Bool.not_false, Int.reduceBEq, Int.reduceBNe, extr30, extr31, show (sN (some d)).1 = (n1 d).1 from rfl, show (sN (sN (some d)).2).1 = (n2 d).1 from rfl, show (sN (sN (sN (some d)).2).2).1 = (n3 d).1 from rfl, hs, Bool.and_true, bld5q hwc.2, new5z, hst, hH6]
      refine Ev.callC (ends_ok t6) ?_
      rw [e1]
      simp only [real_b, real_i, real_c, chk_t, bnd_some, bnd_up, iff_t, iff_f, gd_t, gd_f, wd_b, wd_u, pick_t, pick_f, b_lss, b_leq, b_gtr, b_geq, b_eql, b_neq, b_seql, b_sneq, b_add, b_sub, u_not, nilC_ptr, fAddr_ptr, Nat.zero_add, extr0, extr1, extr2, lenStr, decide_true, decide_false, bt_tt, bt_tf, bt_ft, bt_ff, bt_bne, Bool.not_true, Bool.not_false, Int.reduceBEq, Int.reduceBNe, extr30, extr31, hb6.all (n := 5) rfl]
      refine Ev.callC d1 ?_
      rw [h0]
      simp only [real_b, real_i, real_c, chk_t, bnd_some, bnd_up, iff_t, iff_f, gd_t, gd_f, wd_b, wd_u, pick_t, pick_f, b_lss, b_leq, b_gtr, b_geq, b_eql, b_neq, b_seql, b_sneq, b_add, b_sub, u_not, nilC_ptr, fAddr_ptr, Nat.zero_add, extr0, extr1, extr2, lenStr, decide_true, decide_false, bt_tt, bt_tf, bt_ft, bt_ff, bt_bne, Bool.not_true, Bool.not_false, Int.reduceBEq, Int.reduceBNe, extr30, extr31, (hb6.keep d2).all (n := 5) rfl, hst7, hld7, Option.map_some, resM2, one2]
      exact Ev.pure _
    · have hP : ansdP d = (⟨0, 0, 0, [], []⟩, 290) := by simp [ansdP, h0]
      have e2 : (ckB (n1 d).1 (n2 d).1 (n3 d).1 (L (pB d).1) (dB d).1.length != 0) = true := by simpa using h0
      rw [hP]
      refine ⟨nilS, H7.upd H.n (some ⟨[.int .i64 0, .int .i64 0, .int .i64 0, .string (bs []), nilS], 1, true⟩), ?_, Acc.nil, KH _ _ K1⟩
      refine Ev.enter (fun n => f25_eq rfl n _ _) ?_
      simp only [f25, real_b, real_i, real_c, chk_t, bnd_some, bnd_up, iff_t, iff_f, gd_t, gd_f, wd_b, wd_u, pick_t, pick_f, b_lss, b_leq, b_gtr, b_geq, b_eql, b_neq, b_seql, b_sneq, b_add, b_sub, u_not, nilC_ptr, fAddr_ptr, Nat.zero_add, extr0, extr1, extr2, lenStr, decide_true, decide_false, bt_tt, bt_tf, bt_ft, bt_ff, bt_bne, Bool.not_true, Bool.not_false, Int.reduceBEq, Int.reduceBNe, extr30, extr31, new5z, hH1, bldT h.oneC.2, tk_new h.oneC, hH2]
      refine Ev.callC a01 ?_
      refine Ev.callC a11 ?_
      refine Ev.callC a21 ?_
      refine Ev.callC b1 ?_
      simp only [real_b, real_i, real_c, chk_t, bnd_some, bnd_up, iff_t, iff_f, gd_t, gd_f, wd_b, wd_u, pick_t, pick_f, b_lss, b_leq, b_gtr, b_geq, b_eql, b_neq, b_seql, b_sneq, b_add, b_sub, u_not, nilC_ptr, fAddr_ptr, Nat.zero_add, extr0, extr1, extr2, lenStr, decide_true, decide_false, bt_tt, bt_tf, bt_ft, bt_ff, bt_bne, Bool.not_true, Bool.not_false, Int.reduceBEq, Int.reduceBNe, extr30, extr31, hto]
      refine Ev.callC c1 ?_
      simp only [real_b, real_i, real_c, chk_t, bnd_some, bnd_up, iff_t, iff_f, gd_t, gd_f, wd_b, wd_u, pick_t, pick_f, b_lss, b_leq, b_gtr, b_geq, b_eql, b_neq, b_seql, b_sneq, b_add, b_sub, u_not, nilC_ptr, fAddr_ptr, Nat.zero_add, extr0, extr1, extr2, lenStr, decide_true, decide_false, bt_tt, bt_tf, bt_ft, bt_ff, bt_bne, Bool.not_true, Bool.not_false, Int.reduceBEq, Int.reduceBNe, extr30, extr31, show (sN (some d)).1 = (n1 d).1 from rfl, show (sN (sN (some d)).2).1 = (n2 d).1 from rfl, show (sN (sN (sN (some d)).2).2).1 = (n3 d).1 from rfl, hs, Bool.and_true, bld5q hwc.2, new5z, hst, hH6]
      refine Ev.callC (ends_ok t6) ?_
      rw [e1]
      simp only [real_b, real_i, real_c, chk_t, bnd_some, bnd_up, iff_t, iff_f, gd_t, gd_f, wd_b, wd_u, pick_t, pick_f, b_lss, b_leq, b_gtr, b_geq, b_eql, b_neq, b_seql, b_sneq, b_add, b_sub, u_not, nilC_ptr, fAddr_ptr, Nat.zero_add, extr0, extr1, extr2, lenStr, decide_true, decide_false, bt_tt, bt_tf, bt_ft, bt_ff, bt_bne, Bool.not_true, Bool.not_false, Int.reduceBEq, Int.reduceBNe, extr30, extr31, hb6.all (n := 5) rfl]
      refine Ev.callC d1 ?_
      simp only [real_b, real_i, real_c, chk_t, bnd_some, bnd_up, iff_t, iff_f, gd_t, gd_f, wd_b, wd_u, pick_t, pick_f, b_lss, b_leq, b_gtr, b_geq, b_eql, b_neq, b_seql, b_sneq, b_add, b_sub, u_not, nilC_ptr, fAddr_ptr, Nat.zero_add, extr0, extr1, extr2, lenStr, decide_true, decide_false, bt_tt, bt_tf, bt_ft, bt_ff, bt_bne, Bool.not_true, Bool.not_false, Int.reduceBEq, Int.reduceBNe, extr30, extr31, e2, bld5z, stz _ get7, ldz, Option.map_some, resM2, one2]
      exact Ev.pure _
  · have e1 : decide ((dB d).2 = some []) = false := decide_eq_false he
    have hP : ansdP d = (⟨0, 0, 0, [], []⟩, 290) := by simp [ansdP, he]
    rw [hP]
    refine ⟨nilS, H6.upd H.n (some ⟨[.int .i64 0, .int .i64 0, .int .i64 0, .string (bs []), nilS], 1, true⟩), ?_, Acc.nil, KH _ _ K⟩
    refine Ev.enter (fun n => f25_eq rfl n _ _) ?_
    simp only [f25, real_b, real_i, real_c, chk_t, bnd_some, bnd_up, iff_t, iff_f, gd_t, gd_f, wd_b, wd_u, pick_t, pick_f, b_lss, b_leq, b_gtr, b_geq, b_eql, b_neq, b_seql, b_sneq, b_add, b_sub, u_not, nilC_ptr, fAddr_ptr, Nat.zero_add, extr0, extr1, extr2, lenStr, decide_true, decide_false, bt_tt, bt_tf, bt_ft, bt_ff, bt_bne, Bool.not_true, Bool.not_false, Int.reduceBEq, Int.reduceBNe, extr30, extr31, new5z, hH1, bldT h.oneC.2, tk_new h.oneC, hH2]
    refine Ev.callC a01 ?_
    refine Ev.callC a11 ?_
    refine Ev.callC a21 ?_
    refine Ev.callC b1 ?_
    simp only [real_b, real_i, real_c, chk_t, bnd_some, bnd_up, iff_t, iff_f, gd_t, gd_f, wd_b, wd_u, pick_t, pick_f, b_lss, b_leq, b_gtr, b_geq, b_eql, b_neq, b_seql, b_sneq, b_add, b_sub, u_not, nilC_ptr, fAddr_ptr, Nat.zero_add, extr0, extr1, extr2, lenStr, decide_true, decide_false, bt_tt, bt_tf, bt_ft, bt_ff, bt_bne, Bool.not_true, Bool.not_false, Int.reduceBEq, Int.reduceBNe, extr30, extr31, hto]
    refine Ev.callC c1 ?_
    simp only [real_b, real_i, real_c, chk_t, bnd_some, bnd_up, iff_t, iff_f, gd_t, gd_f, wd_b, wd_u, pick_t, pick_f, b_lss, b_leq, b_gtr, b_geq, b_eql, b_neq, b_seql, b_sneq, b_add, b_sub, u_not, nilC_ptr, fAddr_ptr, Nat.zero_add, extr0, extr1, extr2, lenStr, decide_true, decide_false, bt_tt, bt_tf, bt_ft, bt_ff, bt_bne, Bool.not_true, Bool.not_false, Int.reduceBEq, Int.reduceBNe, extr30, extr31, show (sN (some d)).1 = (n1 d).1 from rfl, show (sN (sN (some d)).2).1 = (n2 d).1 from rfl, show (sN (sN (sN (some d)).2).2).1 = (n3 d).1 from rfl, hs, Bool.and_true, bld5q hwc.2, new5z, hst, hH6]
    refine Ev.callC (ends_ok t6) ?_
    rw [e1]
    simp only [real_b, real_i, real_c, chk_t, bnd_some, bnd_up, iff_t, iff_f, gd_t, gd_f, wd_b, wd_u, pick_t, pick_f, b_lss, b_leq, b_gtr, b_geq, b_eql, b_neq, b_seql, b_sneq, b_add, b_sub, u_not, nilC_ptr, fAddr_ptr, Nat.zero_add, extr0, extr1, extr2, lenStr, decide_true, decide_false, bt_tt, bt_tf, bt_ft, bt_ff, bt_bne, Bool.not_true, Bool.not_false, Int.reduceBEq, Int.reduceBNe, extr30, extr31, bld5z, stz _ get6, ldz, Option.map_some, resM2, one2]
    exact Ev.pure _
/-! ### by the reference -/
theorem rasked_ok {H : Heap} {v : Value} {d : List Nat} (h : By H d v) (hd : ∀ x ∈ d, x < 256) (hm : d.length ≤ mostBytes) :
    ∃ w H', Cl 24 [v] H (.tuple #[rqV (askedP d).1.k (askedP d).1.l w, .int .i64 (askedP d).2]) H' ∧ Acc (all H) H' 1 w (askedP d).1.x.length (B (askedP d).1.x) ∧ Keep (all H) H H' := by
  have k1 : Keep (all H) H (H.push ⟨[.int .i64 0, .string (bs []), nilS], 1, true⟩) := push_keep
  have g1 : (H.push ⟨[.int .i64 0, .string (bs []), nilS], 1, true⟩).get H.n = some ⟨[.int .i64 0, .string (bs []), nilS], 1, true⟩ := push_self
  have hlt : H.n < (H.push ⟨[.int .i64 0, .string (bs []), nilS], 1, true⟩).n := by simp [push_n]
  have hv1 := h.up k1
  generalize hH1 : H.push ⟨[.int .i64 0, .string (bs []), nilS], 1, true⟩ = H1 at *
  have k2 : Keep (all H1) H1 (H1.push ⟨[v, .bool false], 1, true⟩) := push_keep
  have t2 : Tk (fun _ => False) H1.n (H1.push ⟨[v, .bool false], 1, true⟩) (some d) := Tk.new (hv1.mono fun b hb => ⟨hb, id⟩) hd hm
  have hp2 : H1.n < (H1.push ⟨[v, .bool false], 1, true⟩).n := by simp [push_n]
  generalize hH2 : H1.push ⟨[v, .bool false], 1, true⟩ = H2 at *
  obtain ⟨H3, a1, a2, a3⟩ := rnumber1_ok t2 (fun _ h => h.elim)
  have h23 := a3.1
  have hst0 : stV 3 (ptr H3.n 0) (rqV (nA d).1 [] nilS) (H3.push ⟨[.int .i64 0, .string (bs []), nilS], 1, true⟩) = some (undef, H3.push ⟨[.int .i64 (nA d).1, .string (bs []), nilS], 1, true⟩) := stA_push (ds := [.int .i64 (nA d).1, .string (bs []), nilS]) rfl rfl rfl
  have gE0 : (H3.push ⟨[.int .i64 (nA d).1, .string (bs []), nilS], 1, true⟩).get H3.n = some ⟨[.int .i64 (nA d).1, .string (bs []), nilS], 1, true⟩ := push_self
  have lE0 : H3.n < (H3.push ⟨[.int .i64 (nA d).1, .string (bs []), nilS], 1, true⟩).n := by simp [push_n]
  have kE0 : Keep (all H3) H3 (H3.push ⟨[.int .i64 (nA d).1, .string (bs []), nilS], 1, true⟩) := push_keep
  have tE0 : Tk (fun b => b = H3.n) H1.n (H3.push ⟨[.int .i64 (nA d).1, .string (bs []), nilS], 1, true⟩) (sN (some d)).2 := (a2.more (Y := fun b => b = H3.n) fun b h h' => by omega).keep (by omega) (kE0.mono fun b hb => hb.1)
  have K0 : Keep (fun b => b < H2.n ∧ b ≠ H1.n) H2 (H3.push ⟨[.int .i64 (nA d).1, .string (bs []), nilS], 1, true⟩) := a3.trans (kE0.mono fun b hb => Nat.lt_of_lt_of_le hb.1 h23)
  generalize hE0 : H3.push ⟨[.int .i64 (nA d).1, .string (bs []), nilS], 1, true⟩ = E0 at *
  obtain ⟨u, F1, b1, au, t1, r1⟩ := rtext1_ok (m := 32) tE0 (fun b hb => hb ▸ lE0)
  have hto : toStr u F1 = some (.string (bs (L (pA d).1)), F1) := toStr_sl au.sl
  have gF1 : F1.get H3.n = some ⟨[.int .i64 (nA d).1, .string (bs []), nilS], 1, true⟩ := by rw [r1.2 H3.n ⟨lE0, by omega⟩]; exact gE0
  have s1 : stV 1 (ptr H3.n 1) (.string (bs (L (pA d).1))) F1 = some (undef, F1.upd H3.n (some ⟨[.int .i64 (nA d).1, .string (bs (L (pA d).1)), nilS], 1, true⟩)) := stV1_box gF1 (by simp) rfl rfl
  have tE1 : Tk (fun b => b = H3.n) H1.n (F1.upd H3.n (some ⟨[.int .i64 (nA d).1, .string (bs (L (pA d).1)), nilS], 1, true⟩)) _ := t1.keep (by omega) (Keep.upd (R := fun b => b < F1.n ∧ ¬ b = H3.n) (fun h => h.2 rfl))
  have gE1 : (F1.upd H3.n (some ⟨[.int .i64 (nA d).1, .string (bs (L (pA d).1)), nilS], 1, true⟩)).get H3.n = some ⟨[.int .i64 (nA d).1, .string (bs (L (pA d).1)), nilS], 1, true⟩ := upd_self
  have lE1 : H3.n < (F1.upd H3.n (some ⟨[.int .i64 (nA d).1, .string (bs (L (pA d).1)), nilS], 1, true⟩)).n := Nat.lt_of_lt_of_le lE0 r1.1
  have K1 : Keep (fun b => b < H2.n ∧ b ≠ H1.n) H2 (F1.upd H3.n (some ⟨[.int .i64 (nA d).1, .string (bs (L (pA d).1)), nilS], 1, true⟩)) := (K0.trans (r1.mono fun b hb => ⟨Nat.lt_of_lt_of_le hb.1 K0.1, hb.2⟩)).trans (Keep.upd fun h => by have := h.1; omega)
  generalize hE1 : F1.upd H3.n (some ⟨[.int .i64 (nA d).1, .string (bs (L (pA d).1)), nilS], 1, true⟩) = E1 at *
  obtain ⟨w, F2, b2, aw, t2, r2⟩ := rtext1_ok (m := 8192) tE1 (fun b hb => hb ▸ lE1)
  have hwc := aw.oneC
  have gF2 : F2.get H3.n = some ⟨[.int .i64 (nA d).1, .string (bs (L (pA d).1)), nilS], 1, true⟩ := by rw [r2.2 H3.n ⟨lE1, by omega⟩]; exact gE1
  have s2 : stV 1 (ptr H3.n 2) (w) F2 = some (undef, F2.upd H3.n (some ⟨[.int .i64 (nA d).1, .string (bs (L (pA d).1)), w], 1, true⟩)) := stV1_box gF2 (by simp) hwc.2 hwc.1
  have tE2 : Tk (fun b => b = H3.n) H1.n (F2.upd H3.n (some ⟨[.int .i64 (nA d).1, .string (bs (L (pA d).1)), w], 1, true⟩)) _ := t2.keep (by omega) (Keep.upd (R := fun b => b < F2.n ∧ ¬ b = H3.n) (fun h => h.2 rfl))
  have gE2 : (F2.upd H3.n (some ⟨[.int .i64 (nA d).1, .string (bs (L (pA d).1)), w], 1, true⟩)).get H3.n = some ⟨[.int .i64 (nA d).1, .string (bs (L (pA d).1)), w], 1, true⟩ := upd_self
  have lE2 : H3.n < (F2.upd H3.n (some ⟨[.int .i64 (nA d).1, .string (bs (L (pA d).1)), w], 1, true⟩)).n := Nat.lt_of_lt_of_le lE1 r2.1
  have K2 : Keep (fun b => b < H2.n ∧ b ≠ H1.n) H2 (F2.upd H3.n (some ⟨[.int .i64 (nA d).1, .string (bs (L (pA d).1)), w], 1, true⟩)) := (K1.trans (r2.mono fun b hb => ⟨Nat.lt_of_lt_of_le hb.1 K1.1, hb.2⟩)).trans (Keep.upd fun h => by have := h.1; omega)
  have aE : Acc (all E1) (F2.upd H3.n (some ⟨[.int .i64 (nA d).1, .string (bs (L (pA d).1)), w], 1, true⟩)) 1 w (dA d).1.length (B (dA d).1) := aw.past lE1 upd_past
  generalize hE2 : F2.upd H3.n (some ⟨[.int .i64 (nA d).1, .string (bs (L (pA d).1)), w], 1, true⟩) = E2 at *
  have hwE : Sl (all E2) E2 1 w (dA d).1.length (B (dA d).1) := aE.sl
  have hbE : Box (all E2) E2 H3.n [.int .i64 (nA d).1, .string (bs (L (pA d).1)), w] := ⟨lE2, 1, true, gE2⟩
  have hll : (L (pA d).1).length ≤ 32 := by rw [L_len]; exact sT_len
  obtain ⟨H7, d1, d2⟩ := rask_may (k := (nA d).1) (l := L (pA d).1) hwE (by omega)
  have K7 : Keep (fun b => b < H2.n ∧ b ≠ H1.n) H2 H7 := K2.trans (d2.mono fun b hb => Nat.lt_of_lt_of_le hb.1 K2.1)
  have getE : E2.get H.n = some ⟨[.int .i64 0, .string (bs []), nilS], 1, true⟩ := by rw [K2.2 H.n ⟨by omega, by omega⟩, k2.2 H.n hlt]; exact g1
  have get7 : H7.get H.n = some ⟨[.int .i64 0, .string (bs []), nilS], 1, true⟩ := by rw [K7.2 H.n ⟨by omega, by omega⟩, k2.2 H.n hlt]; exact g1
  have KH : ∀ (X : Heap) (bk : Option Blk), Keep (fun b => b < H2.n ∧ b ≠ H1.n) H2 X → Keep (all H) H (X.upd H.n bk) := fun X bk hX =>
    (k1.trans ((k2.mono fun b hb => Nat.lt_of_lt_of_le hb k1.1).trans (hX.mono fun b hb => ⟨by have : b < H.n := hb; omega, by have : b < H.n := hb; omega⟩))).trans (Keep.upd fun h => Nat.lt_irrefl _ h)
  have hEPn : H2.n ≤ E1.n := K1.1
  have hlow : ∀ b, all H b → all E1 b := fun b hb => by have : b < H.n := hb; show b < E1.n; omega
  have stz : ∀ (X : Heap), X.get H.n = some ⟨[.int .i64 0, .string (bs []), nilS], 1, true⟩ → stV 3 (ptr H.n 0) (rqV 0 [] nilS) X = some (undef, X.upd H.n (some ⟨[.int .i64 0, .string (bs []), nilS], 1, true⟩)) := fun X hX => stA_box (ds := [.int .i64 0, .string (bs []), nilS]) hX rfl rfl rfl
  have ldz : ∀ (X : Heap), ldA 3 (ptr H.n 0) (X.upd H.n (some ⟨[.int .i64 0, .string (bs []), nilS], 1, true⟩)) = some (rqV 0 [] nilS, X.upd H.n (some ⟨[.int .i64 0, .string (bs []), nilS], 1, true⟩)) := fun X => ldA_upd (ds := [.int .i64 0, .string (bs []), nilS]) rfl
  have tE : Tk (fun b => b = H3.n) H1.n E2 (dA d).2 := tE2
  obtain ⟨hpE, wl, dl, pE1, pE2, _, _, pE3⟩ := tE
  have hpB : Box (all E2) E2 H1.n [wl, .bool (dA d).2.isNone] := ⟨hpE, 1, true, pE1⟩
  by_cases he : (dA d).2 = some []
  · have hdl : dl = [] := pE3 [] he
    subst hdl
    have ldb := hpB.ld (k := 1) (v := .bool false) (by rw [he]; rfl)
    have e1 : ((([] : List Nat).length : Int) > 0) = False := by simp
    by_cases h0 : ckA (nA d).1 (L (pA d).1) (dA d).1.length = 0
    · have hP : askedP d = (⟨(nA d).1, L (pA d).1, (dA d).1⟩, 0) := by simp [askedP, he, h0]
      have hst7 : stV 3 (ptr H.n 0) (.agg ([.int .i64 (nA d).1, .string (bs (L (pA d).1)), w]).toArray) H7 = some (undef, H7.upd H.n (some ⟨[.int .i64 (nA d).1, .string (bs (L (pA d).1)), w], 1, true⟩)) := stA_box get7 rfl rfl (all3 hwc.1)
      have hld7 := ldA_upd (H := H7) (b := H.n) (n := 3) (ds := [.int .i64 (nA d).1, .string (bs (L (pA d).1)), w]) rfl
      rw [hP]
      refine ⟨w, H7.upd H.n (some ⟨[.int .i64 (nA d).1, .string (bs (L (pA d).1)), w], 1, true⟩), ?_, ((aE.keep d2).past (c := H.n) (by omega) upd_past).low hlow, KH _ _ K7⟩
      refine Ev.enter (fun n => f24_eq rfl n _ _) ?_
      simp only [f24, real_b, real_i, real_c, chk_t, bnd_some, bnd_up, iff_t, iff_f, gd_t, gd_f, wd_b, wd_u, pick_t, pick_f, b_lss, b_leq, b_gtr, b_geq, b_eql, b_neq, b_seql, b_sneq, b_add, b_sub, u_not, nilC_ptr, fAddr_ptr, Nat.zero_add, extr0, extr1, extr2, lenStr, decide_true, decide_false, bt_tt, bt_tf, bt_ft, bt_ff, bt_bne, Bool.not_true, Bool.not_false, Int.reduceBEq, Int.reduceBNe, extr30, extr31, new3z, hH1, bldT h.oneC.2, tk_new h.oneC, hH2]
      refine Ev.callC a1 ?_
      simp only [real_b, real_i, real_c, chk_t, bnd_some, bnd_up, iff_t, iff_f, gd_t, gd_f, wd_b, wd_u, pick_t, pick_f, b_lss, b_leq, b_gtr, b_geq, b_eql, b_neq, b_seql, b_sneq, b_add, b_sub, u_not, nilC_ptr, fAddr_ptr, Nat.zero_add, extr0, extr1, extr2, lenStr, decide_true, decide_false, bt_tt, bt_tf, bt_ft, bt_ff, bt_bne, Bool.not_true, Bool.not_false, Int.reduceBEq, Int.reduceBNe, extr30, extr31, show (sN (some d)).1 = (nA d).1 from rfl, bld3k, new3z, hst0, hE0]
      refine Ev.callC b1 ?_
      simp only [real_b, real_i, real_c, chk_t, bnd_some, bnd_up, iff_t, iff_f, gd_t, gd_f, wd_b, wd_u, pick_t, pick_f, b_lss, b_leq, b_gtr, b_geq, b_eql, b_neq, b_seql, b_sneq, b_add, b_sub, u_not, nilC_ptr, fAddr_ptr, Nat.zero_add, extr0, extr1, extr2, lenStr, decide_true, decide_false, bt_tt, bt_tf, bt_ft, bt_ff, bt_bne, Bool.not_true, Bool.not_false, Int.reduceBEq, Int.reduceBNe, extr30, extr31, show (sN (some d)).1 = (nA d).1 from rfl, hto, s1, hE1]
      refine Ev.callC b2 ?_
      simp only [real_b, real_i, real_c, chk_t, bnd_some, bnd_up, iff_t, iff_f, gd_t, gd_f, wd_b, wd_u, pick_t, pick_f, b_lss, b_leq, b_gtr, b_geq, b_eql, b_neq, b_seql, b_sneq, b_add, b_sub, u_not, nilC_ptr, fAddr_ptr, Nat.zero_add, extr0, extr1, extr2, lenStr, decide_true, decide_false, bt_tt, bt_tf, bt_ft, bt_ff, bt_bne, Bool.not_true, Bool.not_false, Int.reduceBEq, Int.reduceBNe, extr30, extr31, show (sN (some d)).1 = (nA d).1 from rfl, s2, hE2]
      simp only [real_b, real_i, real_c, chk_t, bnd_some, bnd_up, iff_t, iff_f, gd_t, gd_f, wd_b, wd_u, pick_t, pick_f, b_lss, b_leq, b_gtr, b_geq, b_eql, b_neq, b_seql, b_sneq, b_add, b_sub, u_not, nilC_ptr, fAddr_ptr, Nat.zero_add, extr0, extr1, extr2, lenStr, decide_true, decide_false, bt_tt, bt_tf, bt_ft, bt_ff, bt_bne, Bool.not_true, Bool.not_false, Int.reduceBEq, Int.reduceBNe, extr30, extr31, ldb, hpB.ld (k := 0) (v := wl) rfl, pE2.lenS, e1, hbE.all (n := 3) rfl]
      refine Ev.callC d1 ?_
      rw [h0]
      simp only [real_b, real_i, real_c, chk_t, bnd_some, bnd_up, iff_t, iff_f, gd_t, gd_f, wd_b, wd_u, pick_t, pick_f, b_lss, b_leq, b_gtr, b_geq, b_eql, b_neq, b_seql, b_sneq, b_add, b_sub, u_not, nilC_ptr, fAddr_ptr, Nat.zero_add, extr0, extr1, extr2, lenStr, decide_true, decide_false, bt_tt, bt_tf, bt_ft, bt_ff, bt_bne, Bool.not_true, Bool.not_false, Int.reduceBEq, Int.reduceBNe, extr30, extr31, (hbE.keep d2).all (n := 3) rfl, hst7, hld7, Option.map_some, resM2, one2]
      exact Ev.pure _
    · have hP : askedP d = (⟨0, [], []⟩, 290) := by simp [askedP, h0]
      have e2 : (ckA (nA d).1 (L (pA d).1) (dA d).1.length != 0) = true := by simpa using h0
      rw [hP]
      refine ⟨nilS, H7.upd H.n (some ⟨[.int .i64 0, .string (bs []), nilS], 1, true⟩), ?_, Acc.nil, KH _ _ K7⟩
      refine Ev.enter (fun n => f24_eq rfl n _ _) ?_
      simp only [f24, real_b, real_i, real_c, chk_t, bnd_some, bnd_up, iff_t, iff_f, gd_t, gd_f, wd_b, wd_u, pick_t, pick_f, b_lss, b_leq, b_gtr, b_geq, b_eql, b_neq, b_seql, b_sneq, b_add, b_sub, u_not, nilC_ptr, fAddr_ptr, Nat.zero_add, extr0, extr1, extr2, lenStr, decide_true, decide_false, bt_tt, bt_tf, bt_ft, bt_ff, bt_bne, Bool.not_true, Bool.not_false, Int.reduceBEq, Int.reduceBNe, extr30, extr31, new3z, hH1, bldT h.oneC.2, tk_new h.oneC, hH2]
      refine Ev.callC a1 ?_
      simp only [real_b, real_i, real_c, chk_t, bnd_some, bnd_up, iff_t, iff_f, gd_t, gd_f, wd_b, wd_u, pick_t, pick_f, b_lss, b_leq, b_gtr, b_geq, b_eql, b_neq, b_seql, b_sneq, b_add, b_sub, u_not, nilC_ptr, fAddr_ptr, Nat.zero_add, extr0, extr1, extr2, lenStr, decide_true, decide_false, bt_tt, bt_tf, bt_ft, bt_ff, bt_bne, Bool.not_true, Bool.not_false, Int.reduceBEq, Int.reduceBNe, extr30, extr31, show (sN (some d)).1 = (nA d).1 from rfl, bld3k, new3z, hst0, hE0]
      refine Ev.callC b1 ?_
      simp only [real_b, real_i, real_c, chk_t, bnd_some, bnd_up, iff_t, iff_f, gd_t, gd_f, wd_b, wd_u, pick_t, pick_f, b_lss, b_leq, b_gtr, b_geq, b_eql, b_neq, b_seql, b_sneq, b_add, b_sub, u_not, nilC_ptr, fAddr_ptr, Nat.zero_add, extr0, extr1, extr2, lenStr, decide_true, decide_false, bt_tt, bt_tf, bt_ft, bt_ff, bt_bne, Bool.not_true, Bool.not_false, Int.reduceBEq, Int.reduceBNe, extr30, extr31, show (sN (some d)).1 = (nA d).1 from rfl, hto, s1, hE1]
      refine Ev.callC b2 ?_
      simp only [real_b, real_i, real_c, chk_t, bnd_some, bnd_up, iff_t, iff_f, gd_t, gd_f, wd_b, wd_u, pick_t, pick_f, b_lss, b_leq, b_gtr, b_geq, b_eql, b_neq, b_seql, b_sneq, b_add, b_sub, u_not, nilC_ptr, fAddr_ptr, Nat.zero_add, extr0, extr1, extr2, lenStr, decide_true, decide_false, bt_tt, bt_tf, bt_ft, bt_ff, bt_bne, Bool.not_true, Bool.not_false, Int.reduceBEq, Int.reduceBNe, extr30, extr31, show (sN (some d)).1 = (nA d).1 from rfl, s2, hE2]
      simp only [real_b, real_i, real_c, chk_t, bnd_some, bnd_up, iff_t, iff_f, gd_t, gd_f, wd_b, wd_u, pick_t, pick_f, b_lss, b_leq, b_gtr, b_geq, b_eql, b_neq, b_seql, b_sneq, b_add, b_sub, u_not, nilC_ptr, fAddr_ptr, Nat.zero_add, extr0, extr1, extr2, lenStr, decide_true, decide_false, bt_tt, bt_tf, bt_ft, bt_ff, bt_bne, Bool.not_true, Bool.not_false, Int.reduceBEq, Int.reduceBNe, extr30, extr31, ldb, hpB.ld (k := 0) (v := wl) rfl, pE2.lenS, e1, hbE.all (n := 3) rfl]
      refine Ev.callC d1 ?_
      simp only [real_b, real_i, real_c, chk_t, bnd_some, bnd_up, iff_t, iff_f, gd_t, gd_f, wd_b, wd_u, pick_t, pick_f, b_lss, b_leq, b_gtr, b_geq, b_eql, b_neq, b_seql, b_sneq, b_add, b_sub, u_not, nilC_ptr, fAddr_ptr, Nat.zero_add, extr0, extr1, extr2, lenStr, decide_true, decide_false, bt_tt, bt_tf, bt_ft, bt_ff, bt_bne, Bool.not_true, Bool.not_false, Int.reduceBEq, Int.reduceBNe, extr30, extr31, e2, bld3z, stz _ get7, ldz, Option.map_some, resM2, one2]
      exact Ev.pure _
  · have hP : askedP d = (⟨0, [], []⟩, 290) := by simp [askedP, he]
    rw [hP]
    refine ⟨nilS, E2.upd H.n (some ⟨[.int .i64 0, .string (bs []), nilS], 1, true⟩), ?_, Acc.nil, KH _ _ K2⟩
    by_cases hn : (dA d).2 = none
    · have ldb := hpB.ld (k := 1) (v := .bool true) (by rw [hn]; rfl)
      refine Ev.enter (fun n => f24_eq rfl n _ _) ?_
      simp only [f24, real_b, real_i, real_c, chk_t, bnd_some, bnd_up, iff_t, iff_f, gd_t, gd_f, wd_b, wd_u, pick_t, pick_f, b_lss, b_leq, b_gtr, b_geq, b_eql, b_neq, b_seql, b_sneq, b_add, b_sub, u_not, nilC_ptr, fAddr_ptr, Nat.zero_add, extr0, extr1, extr2, lenStr, decide_true, decide_false, bt_tt, bt_tf, bt_ft, bt_ff, bt_bne, Bool.not_true, Bool.not_false, Int.reduceBEq, Int.reduceBNe, extr30, extr31, new3z, hH1, bldT h.oneC.2, tk_new h.oneC, hH2]
      refine Ev.callC a1 ?_
      simp only [real_b, real_i, real_c, chk_t, bnd_some, bnd_up, iff_t, iff_f, gd_t, gd_f, wd_b, wd_u, pick_t, pick_f, b_lss, b_leq, b_gtr, b_geq, b_eql, b_neq, b_seql, b_sneq, b_add, b_sub, u_not, nilC_ptr, fAddr_ptr, Nat.zero_add, extr0, extr1, extr2, lenStr, decide_true, decide_false, bt_tt, bt_tf, bt_ft, bt_ff, bt_bne, Bool.not_true, Bool.not_false, Int.reduceBEq, Int.reduceBNe, extr30, extr31, show (sN (some d)).1 = (nA d).1 from rfl, bld3k, new3z, hst0, hE0]
      refine Ev.callC b1 ?_
      simp only [real_b, real_i, real_c, chk_t, bnd_some, bnd_up, iff_t, iff_f, gd_t, gd_f, wd_b, wd_u, pick_t, pick_f, b_lss, b_leq, b_gtr, b_geq, b_eql, b_neq, b_seql, b_sneq, b_add, b_sub, u_not, nilC_ptr, fAddr_ptr, Nat.zero_add, extr0, extr1, extr2, lenStr, decide_true, decide_false, bt_tt, bt_tf, bt_ft, bt_ff, bt_bne, Bool.not_true, Bool.not_false, Int.reduceBEq, Int.reduceBNe, extr30, extr31, show (sN (some d)).1 = (nA d).1 from rfl, hto, s1, hE1]
      refine Ev.callC b2 ?_
      simp only [real_b, real_i, real_c, chk_t, bnd_some, bnd_up, iff_t, iff_f, gd_t, gd_f, wd_b, wd_u, pick_t, pick_f, b_lss, b_leq, b_gtr, b_geq, b_eql, b_neq, b_seql, b_sneq, b_add, b_sub, u_not, nilC_ptr, fAddr_ptr, Nat.zero_add, extr0, extr1, extr2, lenStr, decide_true, decide_false, bt_tt, bt_tf, bt_ft, bt_ff, bt_bne, Bool.not_true, Bool.not_false, Int.reduceBEq, Int.reduceBNe, extr30, extr31, show (sN (some d)).1 = (nA d).1 from rfl, s2, hE2]
      simp only [real_b, real_i, real_c, chk_t, bnd_some, bnd_up, iff_t, iff_f, gd_t, gd_f, wd_b, wd_u, pick_t, pick_f, b_lss, b_leq, b_gtr, b_geq, b_eql, b_neq, b_seql, b_sneq, b_add, b_sub, u_not, nilC_ptr, fAddr_ptr, Nat.zero_add, extr0, extr1, extr2, lenStr, decide_true, decide_false, bt_tt, bt_tf, bt_ft, bt_ff, bt_bne, Bool.not_true, Bool.not_false, Int.reduceBEq, Int.reduceBNe, extr30, extr31, ldb, bld3z, stz _ getE, ldz, Option.map_some, resM2, one2]
      exact Ev.pure _
    · obtain ⟨d', hd'⟩ := Option.ne_none_iff_exists'.1 hn
      have hdl := pE3 d' hd'
      subst hdl
      have ldb := hpB.ld (k := 1) (v := .bool false) (by rw [hd']; rfl)
      have e1 : ((dl.length : Int) > 0) = True := by
        cases dl
        · exact absurd hd' he
        · simp
      refine Ev.enter (fun n => f24_eq rfl n _ _) ?_
      simp only [f24, real_b, real_i, real_c, chk_t, bnd_some, bnd_up, iff_t, iff_f, gd_t, gd_f, wd_b, wd_u, pick_t, pick_f, b_lss, b_leq, b_gtr, b_geq, b_eql, b_neq, b_seql, b_sneq, b_add, b_sub, u_not, nilC_ptr, fAddr_ptr, Nat.zero_add, extr0, extr1, extr2, lenStr, decide_true, decide_false, bt_tt, bt_tf, bt_ft, bt_ff, bt_bne, Bool.not_true, Bool.not_false, Int.reduceBEq, Int.reduceBNe, extr30, extr31, new3z, hH1, bldT h.oneC.2, tk_new h.oneC, hH2]
      refine Ev.callC a1 ?_
      simp only [real_b, real_i, real_c, chk_t, bnd_some, bnd_up, iff_t, iff_f, gd_t, gd_f, wd_b, wd_u, pick_t, pick_f, b_lss, b_leq, b_gtr, b_geq, b_eql, b_neq, b_seql, b_sneq, b_add, b_sub, u_not, nilC_ptr, fAddr_ptr, Nat.zero_add, extr0, extr1, extr2, lenStr, decide_true, decide_false, bt_tt, bt_tf, bt_ft, bt_ff, bt_bne, Bool.not_true, Bool.not_false, Int.reduceBEq, Int.reduceBNe, extr30, extr31, show (sN (some d)).1 = (nA d).1 from rfl, bld3k, new3z, hst0, hE0]
      refine Ev.callC b1 ?_
      simp only [real_b, real_i, real_c, chk_t, bnd_some, bnd_up, iff_t, iff_f, gd_t, gd_f, wd_b, wd_u, pick_t, pick_f, b_lss, b_leq, b_gtr, b_geq, b_eql, b_neq, b_seql, b_sneq, b_add, b_sub, u_not, nilC_ptr, fAddr_ptr, Nat.zero_add, extr0, extr1, extr2, lenStr, decide_true, decide_false, bt_tt, bt_tf, bt_ft, bt_ff, bt_bne, Bool.not_true, Bool.not_false, Int.reduceBEq, Int.reduceBNe, extr30, extr31, show (sN (some d)).1 = (nA d).1 from rfl, hto, s1, hE1]
      refine Ev.callC b2 ?_
      simp only [real_b, real_i, real_c, chk_t, bnd_some, bnd_up, iff_t, iff_f, gd_t, gd_f, wd_b, wd_u, pick_t, pick_f, b_lss, b_leq, b_gtr, b_geq, b_eql, b_neq, b_seql, b_sneq, b_add, b_sub, u_not, nilC_ptr, fAddr_ptr, Nat.zero_add, extr0, extr1, extr2, lenStr, decide_true, decide_false, bt_tt, bt_tf, bt_ft, bt_ff, bt_bne, Bool.not_true, Bool.not_false, Int.reduceBEq, Int.reduceBNe, extr30, extr31, show (sN (some d)).1 = (nA d).1 from rfl, s2, hE2]
      simp only [real_b, real_i, real_c, chk_t, bnd_some, bnd_up, iff_t, iff_f, gd_t, gd_f, wd_b, wd_u, pick_t, pick_f, b_lss, b_leq, b_gtr, b_geq, b_eql, b_neq, b_seql, b_sneq, b_add, b_sub, u_not, nilC_ptr, fAddr_ptr, Nat.zero_add, extr0, extr1, extr2, lenStr, decide_true, decide_false, bt_tt, bt_tf, bt_ft, bt_ff, bt_bne, Bool.not_true, Bool.not_false, Int.reduceBEq, Int.reduceBNe, extr30, extr31, ldb, hpB.ld (k := 0) (v := wl) rfl, pE2.lenS, e1, bld3z, stz _ getE, ldz, Option.map_some, resM2, one2]
      exact Ev.pure _
theorem ransd_ok {H : Heap} {v : Value} {d : List Nat} (h : By H d v) (hd : ∀ x ∈ d, x < 256) (hm : d.length ≤ mostBytes) :
    ∃ w H', Cl 26 [v] H (.tuple #[rpV (ansdP d).1.k (ansdP d).1.e (ansdP d).1.a (ansdP d).1.l w, .int .i64 (ansdP d).2]) H' ∧ Acc (all H) H' 1 w (ansdP d).1.x.length (B (ansdP d).1.x) ∧ Keep (all H) H H' := by
  have k1 : Keep (all H) H (H.push ⟨[.int .i64 0, .int .i64 0, .int .i64 0, .string (bs []), nilS], 1, true⟩) := push_keep
  have g1 : (H.push ⟨[.int .i64 0, .int .i64 0, .int .i64 0, .string (bs []), nilS], 1, true⟩).get H.n = some ⟨[.int .i64 0, .int .i64 0, .int .i64 0, .string (bs []), nilS], 1, true⟩ := push_self
  have hlt : H.n < (H.push ⟨[.int .i64 0, .int .i64 0, .int .i64 0, .string (bs []), nilS], 1, true⟩).n := by simp [push_n]
  have hv1 := h.up k1
  generalize hH1 : H.push ⟨[.int .i64 0, .int .i64 0, .int .i64 0, .string (bs []), nilS], 1, true⟩ = H1 at *
  have k2 : Keep (all H1) H1 (H1.push ⟨[v, .bool false], 1, true⟩) := push_keep
  have t2 : Tk (fun _ => False) H1.n (H1.push ⟨[v, .bool false], 1, true⟩) (some d) := Tk.new (hv1.mono fun b hb => ⟨hb, id⟩) hd hm
  have hp2 : H1.n < (H1.push ⟨[v, .bool false], 1, true⟩).n := by simp [push_n]
  generalize hH2 : H1.push ⟨[v, .bool false], 1, true⟩ = H2 at *
  obtain ⟨H3, a1, a2, a3⟩ := rnumber1_ok t2 (fun _ h => h.elim)
  have h23 := a3.1
  have hst0 : stV 5 (ptr H3.n 0) (rpV (n1 d).1 0 0 [] nilS) (H3.push ⟨[.int .i64 0, .int .i64 0, .int .i64 0, .string (bs []), nilS], 1, true⟩) = some (undef, H3.push ⟨[.int .i64 (n1 d).1, .int .i64 0, .int .i64 0, .string (bs []), nilS], 1, true⟩) := stA_push (ds := [.int .i64 (n1 d).1, .int .i64 0, .int .i64 0, .string (bs []), nilS]) rfl rfl rfl
  have gE0 : (H3.push ⟨[.int .i64 (n1 d).1, .int .i64 0, .int .i64 0, .string (bs []), nilS], 1, true⟩).get H3.n = some ⟨[.int .i64 (n1 d).1, .int .i64 0, .int .i64 0, .string (bs []), nilS], 1, true⟩ := push_self
  have lE0 : H3.n < (H3.push ⟨[.int .i64 (n1 d).1, .int .i64 0, .int .i64 0, .string (bs []), nilS], 1, true⟩).n := by simp [push_n]
  have kE0 : Keep (all H3) H3 (H3.push ⟨[.int .i64 (n1 d).1, .int .i64 0, .int .i64 0, .string (bs []), nilS], 1, true⟩) := push_keep
  have tE0 : Tk (fun b => b = H3.n) H1.n (H3.push ⟨[.int .i64 (n1 d).1, .int .i64 0, .int .i64 0, .string (bs []), nilS], 1, true⟩) (sN (some d)).2 := (a2.more (Y := fun b => b = H3.n) fun b h h' => by omega).keep (by omega) (kE0.mono fun b hb => hb.1)
  have K0 : Keep (fun b => b < H2.n ∧ b ≠ H1.n) H2 (H3.push ⟨[.int .i64 (n1 d).1, .int .i64 0, .int .i64 0, .string (bs []), nilS], 1, true⟩) := a3.trans (kE0.mono fun b hb => Nat.lt_of_lt_of_le hb.1 h23)
  generalize hE0 : H3.push ⟨[.int .i64 (n1 d).1, .int .i64 0, .int .i64 0, .string (bs []), nilS], 1, true⟩ = E0 at *
  obtain ⟨F1, b1, t1, r1⟩ := rnumber1_ok tE0 (fun b hb => hb ▸ lE0)
  have gF1 : F1.get H3.n = some ⟨[.int .i64 (n1 d).1, .int .i64 0, .int .i64 0, .string (bs []), nilS], 1, true⟩ := by rw [r1.2 H3.n ⟨lE0, by omega⟩]; exact gE0
  have s1 : stV 1 (ptr H3.n 1) (.int .i64 (n2 d).1) F1 = some (undef, F1.upd H3.n (some ⟨[.int .i64 (n1 d).1, .int .i64 (n2 d).1, .int .i64 0, .string (bs []), nilS], 1, true⟩)) := stV1_box gF1 (by simp) rfl rfl
  have tE1 : Tk (fun b => b = H3.n) H1.n (F1.upd H3.n (some ⟨[.int .i64 (n1 d).1, .int .i64 (n2 d).1, .int .i64 0, .string (bs []), nilS], 1, true⟩)) _ := t1.keep (by omega) (Keep.upd (R := fun b => b < F1.n ∧ ¬ b = H3.n) (fun h => h.2 rfl))
  have gE1 : (F1.upd H3.n (some ⟨[.int .i64 (n1 d).1, .int .i64 (n2 d).1, .int .i64 0, .string (bs []), nilS], 1, true⟩)).get H3.n = some ⟨[.int .i64 (n1 d).1, .int .i64 (n2 d).1, .int .i64 0, .string (bs []), nilS], 1, true⟩ := upd_self
  have lE1 : H3.n < (F1.upd H3.n (some ⟨[.int .i64 (n1 d).1, .int .i64 (n2 d).1, .int .i64 0, .string (bs []), nilS], 1, true⟩)).n := Nat.lt_of_lt_of_le lE0 r1.1
  have K1 : Keep (fun b => b < H2.n ∧ b ≠ H1.n) H2 (F1.upd H3.n (some ⟨[.int .i64 (n1 d).1, .int .i64 (n2 d).1, .int .i64 0, .string (bs []), nilS], 1, true⟩)) := (K0.trans (r1.mono fun b hb => ⟨Nat.lt_of_lt_of_le hb.1 K0.1, hb.2⟩)).trans (Keep.upd fun h => by have := h.1; omega)
  generalize hE1 : F1.upd H3.n (some ⟨[.int .i64 (n1 d).1, .int .i64 (n2 d).1, .int .i64 0, .string (bs []), nilS], 1, true⟩) = E1 at *
  obtain ⟨F2, b2, t2, r2⟩ := rnumber1_ok tE1 (fun b hb => hb ▸ lE1)
  have gF2 : F2.get H3.n = some ⟨[.int .i64 (n1 d).1, .int .i64 (n2 d).1, .int .i64 0, .string (bs []), nilS], 1, true⟩ := by rw [r2.2 H3.n ⟨lE1, by omega⟩]; exact gE1
  have s2 : stV 1 (ptr H3.n 2) (.int .i64 (n3 d).1) F2 = some (undef, F2.upd H3.n (some ⟨[.int .i64 (n1 d).1, .int .i64 (n2 d).1, .int .i64 (n3 d).1, .string (bs []), nilS], 1, true⟩)) := stV1_box gF2 (by simp) rfl rfl
  have tE2 : Tk (fun b => b = H3.n) H1.n (F2.upd H3.n (some ⟨[.int .i64 (n1 d).1, .int .i64 (n2 d).1, .int .i64 (n3 d).1, .string (bs []), nilS], 1, true⟩)) _ := t2.keep (by omega) (Keep.upd (R := fun b => b < F2.n ∧ ¬ b = H3.n) (fun h => h.2 rfl))
  have gE2 : (F2.upd H3.n (some ⟨[.int .i64 (n1 d).1, .int .i64 (n2 d).1, .int .i64 (n3 d).1, .string (bs []), nilS], 1, true⟩)).get H3.n = some ⟨[.int .i64 (n1 d).1, .int .i64 (n2 d).1, .int .i64 (n3 d).1, .string (bs []), nilS], 1, true⟩ := upd_self
  have lE2 : H3.n < (F2.upd H3.n (some ⟨[.int .i64 (n1 d).1, .int .i64 (n2 d).1, .int .i64 (n3 d).1, .string (bs []), nilS], 1, true⟩)).n := Nat.lt_of_lt_of_le lE1 r2.1
  have K2 : Keep (fun b => b < H2.n ∧ b ≠ H1.n) H2 (F2.upd H3.n (some ⟨[.int .i64 (n1 d).1, .int .i64 (n2 d).1, .int .i64 (n3 d).1, .string (bs []), nilS], 1, true⟩)) := (K1.trans (r2.mono fun b hb => ⟨Nat.lt_of_lt_of_le hb.1 K1.1, hb.2⟩)).trans (Keep.upd fun h => by have := h.1; omega)
  generalize hE2 : F2.upd H3.n (some ⟨[.int .i64 (n1 d).1, .int .i64 (n2 d).1, .int .i64 (n3 d).1, .string (bs []), nilS], 1, true⟩) = E2 at *
  obtain ⟨u, F3, b3, au, t3, r3⟩ := rtext1_ok (m := 32) tE2 (fun b hb => hb ▸ lE2)
  have hto : toStr u F3 = some (.string (bs (L (pB d).1)), F3) := toStr_sl au.sl
  have gF3 : F3.get H3.n = some ⟨[.int .i64 (n1 d).1, .int .i64 (n2 d).1, .int .i64 (n3 d).1, .string (bs []), nilS], 1, true⟩ := by rw [r3.2 H3.n ⟨lE2, by omega⟩]; exact gE2
  have s3 : stV 1 (ptr H3.n 3) (.string (bs (L (pB d).1))) F3 = some (undef, F3.upd H3.n (some ⟨[.int .i64 (n1 d).1, .int .i64 (n2 d).1, .int .i64 (n3 d).1, .string (bs (L (pB d).1)), nilS], 1, true⟩)) := stV1_box gF3 (by simp) rfl rfl
  have tE3 : Tk (fun b => b = H3.n) H1.n (F3.upd H3.n (some ⟨[.int .i64 (n1 d).1, .int .i64 (n2 d).1, .int .i64 (n3 d).1, .string (bs (L (pB d).1)), nilS], 1, true⟩)) _ := t3.keep (by omega) (Keep.upd (R := fun b => b < F3.n ∧ ¬ b = H3.n) (fun h => h.2 rfl))
  have gE3 : (F3.upd H3.n (some ⟨[.int .i64 (n1 d).1, .int .i64 (n2 d).1, .int .i64 (n3 d).1, .string (bs (L (pB d).1)), nilS], 1, true⟩)).get H3.n = some ⟨[.int .i64 (n1 d).1, .int .i64 (n2 d).1, .int .i64 (n3 d).1, .string (bs (L (pB d).1)), nilS], 1, true⟩ := upd_self
  have lE3 : H3.n < (F3.upd H3.n (some ⟨[.int .i64 (n1 d).1, .int .i64 (n2 d).1, .int .i64 (n3 d).1, .string (bs (L (pB d).1)), nilS], 1, true⟩)).n := Nat.lt_of_lt_of_le lE2 r3.1
  have K3 : Keep (fun b => b < H2.n ∧ b ≠ H1.n) H2 (F3.upd H3.n (some ⟨[.int .i64 (n1 d).1, .int .i64 (n2 d).1, .int .i64 (n3 d).1, .string (bs (L (pB d).1)), nilS], 1, true⟩)) := (K2.trans (r3.mono fun b hb => ⟨Nat.lt_of_lt_of_le hb.1 K2.1, hb.2⟩)).trans (Keep.upd fun h => by have := h.1; omega)
  generalize hE3 : F3.upd H3.n (some ⟨[.int .i64 (n1 d).1, .int .i64 (n2 d).1, .int .i64 (n3 d).1, .string (bs (L (pB d).1)), nilS], 1, true⟩) = E3 at *
  obtain ⟨w, F4, b4, aw, t4, r4⟩ := rtext1_ok (m := 262144) tE3 (fun b hb => hb ▸ lE3)
  have hwc := aw.oneC
  have gF4 : F4.get H3.n = some ⟨[.int .i64 (n1 d).1, .int .i64 (n2 d).1, .int .i64 (n3 d).1, .string (bs (L (pB d).1)), nilS], 1, true⟩ := by rw [r4.2 H3.n ⟨lE3, by omega⟩]; exact gE3
  have s4 : stV 1 (ptr H3.n 4) (w) F4 = some (undef, F4.upd H3.n (some ⟨[.int .i64 (n1 d).1, .int .i64 (n2 d).1, .int .i64 (n3 d).1, .string (bs (L (pB d).1)), w], 1, true⟩)) := stV1_box gF4 (by simp) hwc.2 hwc.1
  have tE4 : Tk (fun b => b = H3.n) H1.n (F4.upd H3.n (some ⟨[.int .i64 (n1 d).1, .int .i64 (n2 d).1, .int .i64 (n3 d).1, .string (bs (L (pB d).1)), w], 1, true⟩)) _ := t4.keep (by omega) (Keep.upd (R := fun b => b < F4.n ∧ ¬ b = H3.n) (fun h => h.2 rfl))
  have gE4 : (F4.upd H3.n (some ⟨[.int .i64 (n1 d).1, .int .i64 (n2 d).1, .int .i64 (n3 d).1, .string (bs (L (pB d).1)), w], 1, true⟩)).get H3.n = some ⟨[.int .i64 (n1 d).1, .int .i64 (n2 d).1, .int .i64 (n3 d).1, .string (bs (L (pB d).1)), w], 1, true⟩ := upd_self
  have lE4 : H3.n < (F4.upd H3.n (some ⟨[.int .i64 (n1 d).1, .int .i64 (n2 d).1, .int .i64 (n3 d).1, .string (bs (L (pB d).1)), w], 1, true⟩)).n := Nat.lt_of_lt_of_le lE3 r4.1
  have K4 : Keep (fun b => b < H2.n ∧ b ≠ H1.n) H2 (F4.upd H3.n (some ⟨[.int .i64 (n1 d).1, .int .i64 (n2 d).1, .int .i64 (n3 d).1, .string (bs (L (pB d).1)), w], 1, true⟩)) := (K3.trans (r4.mono fun b hb => ⟨Nat.lt_of_lt_of_le hb.1 K3.1, hb.2⟩)).trans (Keep.upd fun h => by have := h.1; omega)
  have aE : Acc (all E3) (F4.upd H3.n (some ⟨[.int .i64 (n1 d).1, .int .i64 (n2 d).1, .int .i64 (n3 d).1, .string (bs (L (pB d).1)), w], 1, true⟩)) 1 w (dB d).1.length (B (dB d).1) := aw.past lE3 upd_past
  generalize hE4 : F4.upd H3.n (some ⟨[.int .i64 (n1 d).1, .int .i64 (n2 d).1, .int .i64 (n3 d).1, .string (bs (L (pB d).1)), w], 1, true⟩) = E4 at *
  have hwE : Sl (all E4) E4 1 w (dB d).1.length (B (dB d).1) := aE.sl
  have hbE : Box (all E4) E4 H3.n [.int .i64 (n1 d).1, .int .i64 (n2 d).1, .int .i64 (n3 d).1, .string (bs (L (pB d).1)), w] := ⟨lE4, 1, true, gE4⟩
  have hll : (L (pB d).1).length ≤ 32 := by rw [L_len]; exact sT_len
  obtain ⟨H7, d1, d2⟩ := rans_may (k := (n1 d).1) (e := (n2 d).1) (a := (n3 d).1) (l := L (pB d).1) hwE
  have K7 : Keep (fun b => b < H2.n ∧ b ≠ H1.n) H2 H7 := K4.trans (d2.mono fun b hb => Nat.lt_of_lt_of_le hb.1 K4.1)
  have getE : E4.get H.n = some ⟨[.int .i64 0, .int .i64 0, .int .i64 0, .string (bs []), nilS], 1, true⟩ := by rw [K4.2 H.n ⟨by omega, by omega⟩, k2.2 H.n hlt]; exact g1
  have get7 : H7.get H.n = some ⟨[.int .i64 0, .int .i64 0, .int .i64 0, .string (bs []), nilS], 1, true⟩ := by rw [K7.2 H.n ⟨by omega, by omega⟩, k2.2 H.n hlt]; exact g1
  have KH : ∀ (X : Heap) (bk : Option Blk), Keep (fun b => b < H2.n ∧ b ≠ H1.n) H2 X → Keep (all H) H (X.upd H.n bk) := fun X bk hX =>
    (k1.trans ((k2.mono fun b hb => Nat.lt_of_lt_of_le hb k1.1).trans (hX.mono fun b hb => ⟨by have : b < H.n := hb; omega, by have : b < H.n := hb; omega⟩))).trans (Keep.upd fun h => Nat.lt_irrefl _ h)
  have hEPn : H2.n ≤ E3.n := K3.1
  have hlow : ∀ b, all H b → all E3 b := fun b hb => by have : b < H.n := hb; show b < E3.n; omega
  have stz : ∀ (X : Heap), X.get H.n = some ⟨[.int .i64 0, .int .i64 0, .int .i64 0, .string (bs []), nilS], 1, true⟩ → stV 5 (ptr H.n 0) (rpV 0 0 0 [] nilS) X = some (undef, X.upd H.n (some ⟨[.int .i64 0, .int .i64 0, .int .i64 0, .string (bs []), nilS], 1, true⟩)) := fun X hX => stA_box (ds := [.int .i64 0, .int .i64 0, .int .i64 0, .string (bs []), nilS]) hX rfl rfl rfl
  have ldz : ∀ (X : Heap), ldA 5 (ptr H.n 0) (X.upd H.n (some ⟨[.int .i64 0, .int .i64 0, .int .i64 0, .string (bs []), nilS], 1, true⟩)) = some (rpV 0 0 0 [] nilS, X.upd H.n (some ⟨[.int .i64 0, .int .i64 0, .int .i64 0, .string (bs []), nilS], 1, true⟩)) := fun X => ldA_upd (ds := [.int .i64 0, .int .i64 0, .int .i64 0, .string (bs []), nilS]) rfl
  have tE : Tk (fun b => b = H3.n) H1.n E4 (dB d).2 := tE4
  obtain ⟨hpE, wl, dl, pE1, pE2, _, _, pE3⟩ := tE
  have hpB : Box (all E4) E4 H1.n [wl, .bool (dB d).2.isNone] := ⟨hpE, 1, true, pE1⟩
  by_cases he : (dB d).2 = some []
  · have hdl : dl = [] := pE3 [] he
    subst hdl
    have ldb := hpB.ld (k := 1) (v := .bool false) (by rw [he]; rfl)
    have e1 : ((([] : List Nat).length : Int) > 0) = False := by simp
    by_cases h0 : ckB (n1 d).1 (n2 d).1 (n3 d).1 (L (pB d).1) (dB d).1.length = 0
    · have hP : ansdP d = (⟨(n1 d).1, (n2 d).1, (n3 d).1, L (pB d).1, (dB d).1⟩, 0) := by simp [ansdP, he, h0]
      have hst7 : stV 5 (ptr H.n 0) (.agg ([.int .i64 (n1 d).1, .int .i64 (n2 d).1, .int .i64 (n3 d).1, .string (bs (L (pB d).1)), w]).toArray) H7 = some (undef, H7.upd H.n (some ⟨[.int .i64 (n1 d).1, .int .i64 (n2 d).1, .int .i64 (n3 d).1, .string (bs (L (pB d).1)), w], 1, true⟩)) := stA_box get7 rfl rfl (all5 hwc.1)
      have hld7 := ldA_upd (H := H7) (b := H.n) (n := 5) (ds := [.int .i64 (n1 d).1, .int .i64 (n2 d).1, .int .i64 (n3 d).1, .string (bs (L (pB d).1)), w]) rfl
      rw [hP]
      refine ⟨w, H7.upd H.n (some ⟨[.int .i64 (n1 d).1, .int .i64 (n2 d).1, .int .i64 (n3 d).1, .string (bs (L (pB d).1)), w], 1, true⟩), ?_, ((aE.keep d2).past (c := H.n) (by omega) upd_past).low hlow, KH _ _ K7⟩
      refine Ev.enter (fun n => f26_eq rfl n _ _) ?_
      simp only [f26, real_b, real_i, real_c, chk_t, bnd_some, bnd_up, iff_t, iff_f, gd_t, gd_f, wd_b, wd_u, pick_t, pick_f, b_lss, b_leq, b_gtr, b_geq, b_eql, b_neq, b_seql, b_sneq, b_add, b_sub, u_not, nilC_ptr, fAddr_ptr, Nat.zero_add, extr0, extr1, extr2, lenStr, decide_true, decide_false, bt_tt, bt_tf, bt_ft, bt_ff, bt_bne, Bool.not_true, Bool.not_false, Int.reduceBEq, Int.reduceBNe, extr30, extr31, new5z, hH1, bldT h.oneC.2, tk_new h.oneC, hH2]
      refine Ev.callC a1 ?_
      simp only [real_b, real_i, real_c, chk_t, bnd_some, bnd_up, iff_t, iff_f, gd_t, gd_f, wd_b, wd_u, pick_t, pick_f, b_lss, b_leq, b_gtr, b_geq, b_eql, b_neq, b_seql, b_sneq, b_add, b_sub, u_not, nilC_ptr, fAddr_ptr, Nat.zero_add, extr0, extr1, extr2, lenStr, decide_true, decide_false, bt_tt, bt_tf, bt_ft, bt_ff, bt_bne, Bool.not_true, Bool.not_false, Int.reduceBEq, Int.reduceBNe, extr30, extr31, show (sN (some d)).1 = (n1 d).1 from rfl, show (sN (sN (some d)).2).1 = (n2 d).1 from rfl, show (sN (sN (sN (some d)).2).2).1 = (n3 d).1 from rfl, bld5k, new5z, hst0, hE0]
      refine Ev.callC b1 ?_
      simp only [real_b, real_i, real_c, chk_t, bnd_some, bnd_up, iff_t, iff_f, gd_t, gd_f, wd_b, wd_u, pick_t, pick_f, b_lss, b_leq, b_gtr, b_geq, b_eql, b_neq, b_seql, b_sneq, b_add, b_sub, u_not, nilC_ptr, fAddr_ptr, Nat.zero_add, extr0, extr1, extr2, lenStr, decide_true, decide_false, bt_tt, bt_tf, bt_ft, bt_ff, bt_bne, Bool.not_true, Bool.not_false, Int.reduceBEq, Int.reduceBNe, extr30, extr31, show (sN (some d)).1 = (n1 d).1 from rfl, show (sN (sN (some d)).2).1 = (n2 d).1 from rfl, show (sN (sN (sN (some d)).2).2).1 = (n3 d).1 from rfl, s1, hE1]
      refine Ev.callC b2 ?_
      simp only [real_b, real_i, real_c, chk_t, bnd_some, bnd_up, iff_t, iff_f, gd_t, gd_f, wd_b, wd_u, pick_t, pick_f, b_lss, b_leq, b_gtr, b_geq, b_eql, b_neq, b_seql, b_sneq, b_add, b_sub, u_not, nilC_ptr, fAddr_ptr, Nat.zero_add, extr0, extr1, extr2, lenStr, decide_true, decide_false, bt_tt, bt_tf, bt_ft, bt_ff, bt_bne, Bool.not_true, Bool.not_false, Int.reduceBEq, Int.reduceBNe, extr30, extr31, show (sN (some d)).1 = (n1 d).1 from rfl, show (sN (sN (some d)).2).1 = (n2 d).1 from rfl, show (sN (sN (sN (some d)).2).2).1 = (n3 d).1 from rfl, s2, hE2]
      refine Ev.callC b3 ?_
      simp only [real_b, real_i, real_c, chk_t, bnd_some, bnd_up, iff_t, iff_f, gd_t, gd_f, wd_b, wd_u, pick_t, pick_f, b_lss, b_leq, b_gtr, b_geq, b_eql, b_neq, b_seql, b_sneq, b_add, b_sub, u_not, nilC_ptr, fAddr_ptr, Nat.zero_add, extr0, extr1, extr2, lenStr, decide_true, decide_false, bt_tt, bt_tf, bt_ft, bt_ff, bt_bne, Bool.not_true, Bool.not_false, Int.reduceBEq, Int.reduceBNe, extr30, extr31, show (sN (some d)).1 = (n1 d).1 from rfl, show (sN (sN (some d)).2).1 = (n2 d).1 from rfl, show (sN (sN (sN (some d)).2).2).1 = (n3 d).1 from rfl, hto, s3, hE3]
      refine Ev.callC b4 ?_
      simp only [real_b, real_i, real_c, chk_t, bnd_some, bnd_up, iff_t, iff_f, gd_t, gd_f, wd_b, wd_u, pick_t, pick_f, b_lss, b_leq, b_gtr, b_geq, b_eql, b_neq, b_seql, b_sneq, b_add, b_sub, u_not, nilC_ptr, fAddr_ptr, Nat.zero_add, extr0, extr1, extr2, lenStr, decide_true, decide_false, bt_tt, bt_tf, bt_ft, bt_ff, bt_bne, Bool.not_true, Bool.not_false, Int.reduceBEq, Int.reduceBNe, extr30, extr31, show (sN (some d)).1 = (n1 d).1 from rfl, show (sN (sN (some d)).2).1 = (n2 d).1 from rfl, show (sN (sN (sN (some d)).2).2).1 = (n3 d).1 from rfl, s4, hE4]
      simp only [real_b, real_i, real_c, chk_t, bnd_some, bnd_up, iff_t, iff_f, gd_t, gd_f, wd_b, wd_u, pick_t, pick_f, b_lss, b_leq, b_gtr, b_geq, b_eql, b_neq, b_seql, b_sneq, b_add, b_sub, u_not, nilC_ptr, fAddr_ptr, Nat.zero_add, extr0, extr1, extr2, lenStr, decide_true, decide_false, bt_tt, bt_tf, bt_ft, bt_ff, bt_bne, Bool.not_true, Bool.not_false, Int.reduceBEq, Int.reduceBNe, extr30, extr31, ldb, hpB.ld (k := 0) (v := wl) rfl, pE2.lenS, e1, hbE.all (n := 5) rfl]
      refine Ev.callC d1 ?_
      rw [h0]
      simp only [real_b, real_i, real_c, chk_t, bnd_some, bnd_up, iff_t, iff_f, gd_t, gd_f, wd_b, wd_u, pick_t, pick_f, b_lss, b_leq, b_gtr, b_geq, b_eql, b_neq, b_seql, b_sneq, b_add, b_sub, u_not, nilC_ptr, fAddr_ptr, Nat.zero_add, extr0, extr1, extr2, lenStr, decide_true, decide_false, bt_tt, bt_tf, bt_ft, bt_ff, bt_bne, Bool.not_true, Bool.not_false, Int.reduceBEq, Int.reduceBNe, extr30, extr31, (hbE.keep d2).all (n := 5) rfl, hst7, hld7, Option.map_some, resM2, one2]
      exact Ev.pure _
    · have hP : ansdP d = (⟨0, 0, 0, [], []⟩, 290) := by simp [ansdP, h0]
      have e2 : (ckB (n1 d).1 (n2 d).1 (n3 d).1 (L (pB d).1) (dB d).1.length != 0) = true := by simpa using h0
      rw [hP]
      refine ⟨nilS, H7.upd H.n (some ⟨[.int .i64 0, .int .i64 0, .int .i64 0, .string (bs []), nilS], 1, true⟩), ?_, Acc.nil, KH _ _ K7⟩
      refine Ev.enter (fun n => f26_eq rfl n _ _) ?_
      simp only [f26, real_b, real_i, real_c, chk_t, bnd_some, bnd_up, iff_t, iff_f, gd_t, gd_f, wd_b, wd_u, pick_t, pick_f, b_lss, b_leq, b_gtr, b_geq, b_eql, b_neq, b_seql, b_sneq, b_add, b_sub, u_not, nilC_ptr, fAddr_ptr, Nat.zero_add, extr0, extr1, extr2, lenStr, decide_true, decide_false, bt_tt, bt_tf, bt_ft, bt_ff, bt_bne, Bool.not_true, Bool.not_false, Int.reduceBEq, Int.reduceBNe, extr30, extr31, new5z, hH1, bldT h.oneC.2, tk_new h.oneC, hH2]
      refine Ev.callC a1 ?_
      simp only [real_b, real_i, real_c, chk_t, bnd_some, bnd_up, iff_t, iff_f, gd_t, gd_f, wd_b, wd_u, pick_t, pick_f, b_lss, b_leq, b_gtr, b_geq, b_eql, b_neq, b_seql, b_sneq, b_add, b_sub, u_not, nilC_ptr, fAddr_ptr, Nat.zero_add, extr0, extr1, extr2, lenStr, decide_true, decide_false, bt_tt, bt_tf, bt_ft, bt_ff, bt_bne, Bool.not_true, Bool.not_false, Int.reduceBEq, Int.reduceBNe, extr30, extr31, show (sN (some d)).1 = (n1 d).1 from rfl, show (sN (sN (some d)).2).1 = (n2 d).1 from rfl, show (sN (sN (sN (some d)).2).2).1 = (n3 d).1 from rfl, bld5k, new5z, hst0, hE0]
      refine Ev.callC b1 ?_
      simp only [real_b, real_i, real_c, chk_t, bnd_some, bnd_up, iff_t, iff_f, gd_t, gd_f, wd_b, wd_u, pick_t, pick_f, b_lss, b_leq, b_gtr, b_geq, b_eql, b_neq, b_seql, b_sneq, b_add, b_sub, u_not, nilC_ptr, fAddr_ptr, Nat.zero_add, extr0, extr1, extr2, lenStr, decide_true, decide_false, bt_tt, bt_tf, bt_ft, bt_ff, bt_bne, Bool.not_true, Bool.not_false, Int.reduceBEq, Int.reduceBNe, extr30, extr31, show (sN (some d)).1 = (n1 d).1 from rfl, show (sN (sN (some d)).2).1 = (n2 d).1 from rfl, show (sN (sN (sN (some d)).2).2).1 = (n3 d).1 from rfl, s1, hE1]
      refine Ev.callC b2 ?_
      simp only [real_b, real_i, real_c, chk_t, bnd_some, bnd_up, iff_t, iff_f, gd_t, gd_f, wd_b, wd_u, pick_t, pick_f, b_lss, b_leq, b_gtr, b_geq, b_eql, b_neq, b_seql, b_sneq, b_add, b_sub, u_not, nilC_ptr, fAddr_ptr, Nat.zero_add, extr0, extr1, extr2, lenStr, decide_true, decide_false, bt_tt, bt_tf, bt_ft, bt_ff, bt_bne, Bool.not_true, Bool.not_false, Int.reduceBEq, Int.reduceBNe, extr30, extr31, show (sN (some d)).1 = (n1 d).1 from rfl, show (sN (sN (some d)).2).1 = (n2 d).1 from rfl, show (sN (sN (sN (some d)).2).2).1 = (n3 d).1 from rfl, s2, hE2]
      refine Ev.callC b3 ?_
      simp only [real_b, real_i, real_c, chk_t, bnd_some, bnd_up, iff_t, iff_f, gd_t, gd_f, wd_b, wd_u, pick_t, pick_f, b_lss, b_leq, b_gtr, b_geq, b_eql, b_neq, b_seql, b_sneq, b_add, b_sub, u_not, nilC_ptr, fAddr_ptr, Nat.zero_add, extr0, extr1, extr2, lenStr, decide_true, decide_false, bt_tt, bt_tf, bt_ft, bt_ff, bt_bne, Bool.not_true, Bool.not_false, Int.reduceBEq, Int.reduceBNe, extr30, extr31, show (sN (some d)).1 = (n1 d).1 from rfl, show (sN (sN (some d)).2).1 = (n2 d).1 from rfl, show (sN (sN (sN (some d)).2).2).1 = (n3 d).1 from rfl, hto, s3, hE3]
      refine Ev.callC b4 ?_
      simp only [real_b, real_i, real_c, chk_t, bnd_some, bnd_up, iff_t, iff_f, gd_t, gd_f, wd_b, wd_u, pick_t, pick_f, b_lss, b_leq, b_gtr, b_geq, b_eql, b_neq, b_seql, b_sneq, b_add, b_sub, u_not, nilC_ptr, fAddr_ptr, Nat.zero_add, extr0, extr1, extr2, lenStr, decide_true, decide_false, bt_tt, bt_tf, bt_ft, bt_ff, bt_bne, Bool.not_true, Bool.not_false, Int.reduceBEq, Int.reduceBNe, extr30, extr31, show (sN (some d)).1 = (n1 d).1 from rfl, show (sN (sN (some d)).2).1 = (n2 d).1 from rfl, show (sN (sN (sN (some d)).2).2).1 = (n3 d).1 from rfl, s4, hE4]
      simp only [real_b, real_i, real_c, chk_t, bnd_some, bnd_up, iff_t, iff_f, gd_t, gd_f, wd_b, wd_u, pick_t, pick_f, b_lss, b_leq, b_gtr, b_geq, b_eql, b_neq, b_seql, b_sneq, b_add, b_sub, u_not, nilC_ptr, fAddr_ptr, Nat.zero_add, extr0, extr1, extr2, lenStr, decide_true, decide_false, bt_tt, bt_tf, bt_ft, bt_ff, bt_bne, Bool.not_true, Bool.not_false, Int.reduceBEq, Int.reduceBNe, extr30, extr31, ldb, hpB.ld (k := 0) (v := wl) rfl, pE2.lenS, e1, hbE.all (n := 5) rfl]
      refine Ev.callC d1 ?_
      simp only [real_b, real_i, real_c, chk_t, bnd_some, bnd_up, iff_t, iff_f, gd_t, gd_f, wd_b, wd_u, pick_t, pick_f, b_lss, b_leq, b_gtr, b_geq, b_eql, b_neq, b_seql, b_sneq, b_add, b_sub, u_not, nilC_ptr, fAddr_ptr, Nat.zero_add, extr0, extr1, extr2, lenStr, decide_true, decide_false, bt_tt, bt_tf, bt_ft, bt_ff, bt_bne, Bool.not_true, Bool.not_false, Int.reduceBEq, Int.reduceBNe, extr30, extr31, e2, bld5z, stz _ get7, ldz, Option.map_some, resM2, one2]
      exact Ev.pure _
  · have hP : ansdP d = (⟨0, 0, 0, [], []⟩, 290) := by simp [ansdP, he]
    rw [hP]
    refine ⟨nilS, E4.upd H.n (some ⟨[.int .i64 0, .int .i64 0, .int .i64 0, .string (bs []), nilS], 1, true⟩), ?_, Acc.nil, KH _ _ K4⟩
    by_cases hn : (dB d).2 = none
    · have ldb := hpB.ld (k := 1) (v := .bool true) (by rw [hn]; rfl)
      refine Ev.enter (fun n => f26_eq rfl n _ _) ?_
      simp only [f26, real_b, real_i, real_c, chk_t, bnd_some, bnd_up, iff_t, iff_f, gd_t, gd_f, wd_b, wd_u, pick_t, pick_f, b_lss, b_leq, b_gtr, b_geq, b_eql, b_neq, b_seql, b_sneq, b_add, b_sub, u_not, nilC_ptr, fAddr_ptr, Nat.zero_add, extr0, extr1, extr2, lenStr, decide_true, decide_false, bt_tt, bt_tf, bt_ft, bt_ff, bt_bne, Bool.not_true, Bool.not_false, Int.reduceBEq, Int.reduceBNe, extr30, extr31, new5z, hH1, bldT h.oneC.2, tk_new h.oneC, hH2]
      refine Ev.callC a1 ?_
      simp only [real_b, real_i, real_c, chk_t, bnd_some, bnd_up, iff_t, iff_f, gd_t, gd_f, wd_b, wd_u, pick_t, pick_f, b_lss, b_leq, b_gtr, b_geq, b_eql, b_neq, b_seql, b_sneq, b_add, b_sub, u_not, nilC_ptr, fAddr_ptr, Nat.zero_add, extr0, extr1, extr2, lenStr, decide_true, decide_false, bt_tt, bt_tf, bt_ft, bt_ff, bt_bne, Bool.not_true, Bool.not_false, Int.reduceBEq, Int.reduceBNe, extr30, extr31, show (sN (some d)).1 = (n1 d).1 from rfl, show (sN (sN (some d)).2).1 = (n2 d).1 from rfl, show (sN (sN (sN (some d)).2).2).1 = (n3 d).1 from rfl, bld5k, new5z, hst0, hE0]
      refine Ev.callC b1 ?_
      simp only [real_b, real_i, real_c, chk_t, bnd_some, bnd_up, iff_t, iff_f, gd_t, gd_f, wd_b, wd_u, pick_t, pick_f, b_lss, b_leq, b_gtr, b_geq, b_eql, b_neq, b_seql, b_sneq, b_add, b_sub, u_not, nilC_ptr, fAddr_ptr, Nat.zero_add, extr0, extr1, extr2, lenStr, decide_true, decide_false, bt_tt, bt_tf, bt_ft, bt_ff, bt_bne, Bool.not_true, Bool.not_false, Int.reduceBEq, Int.reduceBNe, extr30, extr31, show (sN (some d)).1 = (n1 d).1 from rfl, show (sN (sN (some d)).2).1 = (n2 d).1 from rfl, show (sN (sN (sN (some d)).2).2).1 = (n3 d).1 from rfl, s1, hE1]
      refine Ev.callC b2 ?_
      simp only [real_b, real_i, real_c, chk_t, bnd_some, bnd_up, iff_t, iff_f, gd_t, gd_f, wd_b, wd_u, pick_t, pick_f, b_lss, b_leq, b_gtr, b_geq, b_eql, b_neq, b_seql, b_sneq, b_add, b_sub, u_not, nilC_ptr, fAddr_ptr, Nat.zero_add, extr0, extr1, extr2, lenStr, decide_true, decide_false, bt_tt, bt_tf, bt_ft, bt_ff, bt_bne, Bool.not_true, Bool.not_false, Int.reduceBEq, Int.reduceBNe, extr30, extr31, show (sN (some d)).1 = (n1 d).1 from rfl, show (sN (sN (some d)).2).1 = (n2 d).1 from rfl, show (sN (sN (sN (some d)).2).2).1 = (n3 d).1 from rfl, s2, hE2]
      refine Ev.callC b3 ?_
      simp only [real_b, real_i, real_c, chk_t, bnd_some, bnd_up, iff_t, iff_f, gd_t, gd_f, wd_b, wd_u, pick_t, pick_f, b_lss, b_leq, b_gtr, b_geq, b_eql, b_neq, b_seql, b_sneq, b_add, b_sub, u_not, nilC_ptr, fAddr_ptr, Nat.zero_add, extr0, extr1, extr2, lenStr, decide_true, decide_false, bt_tt, bt_tf, bt_ft, bt_ff, bt_bne, Bool.not_true, Bool.not_false, Int.reduceBEq, Int.reduceBNe, extr30, extr31, show (sN (some d)).1 = (n1 d).1 from rfl, show (sN (sN (some d)).2).1 = (n2 d).1 from rfl, show (sN (sN (sN (some d)).2).2).1 = (n3 d).1 from rfl, hto, s3, hE3]
      refine Ev.callC b4 ?_
      simp only [real_b, real_i, real_c, chk_t, bnd_some, bnd_up, iff_t, iff_f, gd_t, gd_f, wd_b, wd_u, pick_t, pick_f, b_lss, b_leq, b_gtr, b_geq, b_eql, b_neq, b_seql, b_sneq, b_add, b_sub, u_not, nilC_ptr, fAddr_ptr, Nat.zero_add, extr0, extr1, extr2, lenStr, decide_true, decide_false, bt_tt, bt_tf, bt_ft, bt_ff, bt_bne, Bool.not_true, Bool.not_false, Int.reduceBEq, Int.reduceBNe, extr30, extr31, show (sN (some d)).1 = (n1 d).1 from rfl, show (sN (sN (some d)).2).1 = (n2 d).1 from rfl, show (sN (sN (sN (some d)).2).2).1 = (n3 d).1 from rfl, s4, hE4]
      simp only [real_b, real_i, real_c, chk_t, bnd_some, bnd_up, iff_t, iff_f, gd_t, gd_f, wd_b, wd_u, pick_t, pick_f, b_lss, b_leq, b_gtr, b_geq, b_eql, b_neq, b_seql, b_sneq, b_add, b_sub, u_not, nilC_ptr, fAddr_ptr, Nat.zero_add, extr0, extr1, extr2, lenStr, decide_true, decide_false, bt_tt, bt_tf, bt_ft, bt_ff, bt_bne, Bool.not_true, Bool.not_false, Int.reduceBEq, Int.reduceBNe, extr30, extr31, ldb, bld5z, stz _ getE, ldz, Option.map_some, resM2, one2]
      exact Ev.pure _
    · obtain ⟨d', hd'⟩ := Option.ne_none_iff_exists'.1 hn
      have hdl := pE3 d' hd'
      subst hdl
      have ldb := hpB.ld (k := 1) (v := .bool false) (by rw [hd']; rfl)
      have e1 : ((dl.length : Int) > 0) = True := by
        cases dl
        · exact absurd hd' he
        · simp
      refine Ev.enter (fun n => f26_eq rfl n _ _) ?_
      simp only [f26, real_b, real_i, real_c, chk_t, bnd_some, bnd_up, iff_t, iff_f, gd_t, gd_f, wd_b, wd_u, pick_t, pick_f, b_lss, b_leq, b_gtr, b_geq, b_eql, b_neq, b_seql, b_sneq, b_add, b_sub, u_not, nilC_ptr, fAddr_ptr, Nat.zero_add, extr0, extr1, extr2, lenStr, decide_true, decide_false, bt_tt, bt_tf, bt_ft, bt_ff, bt_bne, Bool.not_true, Bool.not_false, Int.reduceBEq, Int.reduceBNe, extr30, extr31, new5z, hH1, bldT h.oneC.2, tk_new h.oneC, hH2]
      refine Ev.callC a1 ?_
      simp only [real_b, real_i, real_c, chk_t, bnd_some, bnd_up, iff_t, iff_f, gd_t, gd_f, wd_b, wd_u, pick_t, pick_f, b_lss, b_leq, b_gtr, b_geq, b_eql, b_neq, b_seql, b_sneq, b_add, b_sub, u_not, nilC_ptr, fAddr_ptr, Nat.zero_add, extr0, extr1, extr2, lenStr, decide_true, decide_false, bt_tt, bt_tf, bt_ft, bt_ff, bt_bne, Bool.not_true, Bool.not_false, Int.reduceBEq, Int.reduceBNe, extr30, extr31, show (sN (some d)).1 = (n1 d).1 from rfl, show (sN (sN (some d)).2).1 = (n2 d).1 from rfl, show (sN (sN (sN (some d)).2).2).1 = (n3 d).1 from rfl, bld5k, new5z, hst0, hE0]
      refine Ev.callC b1 ?_
      simp only [real_b, real_i, real_c, chk_t, bnd_some, bnd_up, iff_t, iff_f, gd_t, gd_f, wd_b, wd_u, pick_t, pick_f, b_lss, b_leq, b_gtr, b_geq, b_eql, b_neq, b_seql, b_sneq, b_add, b_sub, u_not, nilC_ptr, fAddr_ptr, Nat.zero_add, extr0, extr1, extr2, lenStr, decide_true, decide_false, bt_tt, bt_tf, bt_ft, bt_ff, bt_bne, Bool.not_true, Bool.not_false, Int.reduceBEq, Int.reduceBNe, extr30, extr31, show (sN (some d)).1 = (n1 d).1 from rfl, show (sN (sN (some d)).2).1 = (n2 d).1 from rfl, show (sN (sN (sN (some d)).2).2).1 = (n3 d).1 from rfl, s1, hE1]
      refine Ev.callC b2 ?_
      simp only [real_b, real_i, real_c, chk_t, bnd_some, bnd_up, iff_t, iff_f, gd_t, gd_f, wd_b, wd_u, pick_t, pick_f, b_lss, b_leq, b_gtr, b_geq, b_eql, b_neq, b_seql, b_sneq, b_add, b_sub, u_not, nilC_ptr, fAddr_ptr, Nat.zero_add, extr0, extr1, extr2, lenStr, decide_true, decide_false, bt_tt, bt_tf, bt_ft, bt_ff, bt_bne, Bool.not_true, Bool.not_false, Int.reduceBEq, Int.reduceBNe, extr30, extr31, show (sN (some d)).1 = (n1 d).1 from rfl, show (sN (sN (some d)).2).1 = (n2 d).1 from rfl, show (sN (sN (sN (some d)).2).2).1 = (n3 d).1 from rfl, s2, hE2]
      refine Ev.callC b3 ?_
      simp only [real_b, real_i, real_c, chk_t, bnd_some, bnd_up, iff_t, iff_f, gd_t, gd_f, wd_b, wd_u, pick_t, pick_f, b_lss, b_leq, b_gtr, b_geq, b_eql, b_neq, b_seql, b_sneq, b_add, b_sub, u_not, nilC_ptr, fAddr_ptr, Nat.zero_add, extr0, extr1, extr2, lenStr, decide_true, decide_false, bt_tt, bt_tf, bt_ft, bt_ff, bt_bne, Bool.not_true, Bool.not_false, Int.reduceBEq, Int.reduceBNe, extr30, extr31, show (sN (some d)).1 = (n1 d).1 from rfl, show (sN (sN (some d)).2).1 = (n2 d).1 from rfl, show (sN (sN (sN (some d)).2).2).1 = (n3 d).1 from rfl, hto, s3, hE3]
      refine Ev.callC b4 ?_
      simp only [real_b, real_i, real_c, chk_t, bnd_some, bnd_up, iff_t, iff_f, gd_t, gd_f, wd_b, wd_u, pick_t, pick_f, b_lss, b_leq, b_gtr, b_geq, b_eql, b_neq, b_seql, b_sneq, b_add, b_sub, u_not, nilC_ptr, fAddr_ptr, Nat.zero_add, extr0, extr1, extr2, lenStr, decide_true, decide_false, bt_tt, bt_tf, bt_ft, bt_ff, bt_bne, Bool.not_true, Bool.not_false, Int.reduceBEq, Int.reduceBNe, extr30, extr31, show (sN (some d)).1 = (n1 d).1 from rfl, show (sN (sN (some d)).2).1 = (n2 d).1 from rfl, show (sN (sN (sN (some d)).2).2).1 = (n3 d).1 from rfl, s4, hE4]
      simp only [real_b, real_i, real_c, chk_t, bnd_some, bnd_up, iff_t, iff_f, gd_t, gd_f, wd_b, wd_u, pick_t, pick_f, b_lss, b_leq, b_gtr, b_geq, b_eql, b_neq, b_seql, b_sneq, b_add, b_sub, u_not, nilC_ptr, fAddr_ptr, Nat.zero_add, extr0, extr1, extr2, lenStr, decide_true, decide_false, bt_tt, bt_tf, bt_ft, bt_ff, bt_bne, Bool.not_true, Bool.not_false, Int.reduceBEq, Int.reduceBNe, extr30, extr31, ldb, hpB.ld (k := 0) (v := wl) rfl, pE2.lenS, e1, bld5z, stz _ getE, ldz, Option.map_some, resM2, one2]
      exact Ev.pure _
end Go.Eng
