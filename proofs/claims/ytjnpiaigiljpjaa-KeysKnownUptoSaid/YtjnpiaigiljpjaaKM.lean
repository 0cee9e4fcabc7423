/- Grammars: how they lie in memory. -/
import Derived.Test.YtjnpiaigiljpjaaKL
set_option linter.unusedVariables false
set_option linter.unusedSimpArgs false
namespace Go.Eng
open Go Go.Proofs

/-! ### boxes -/
/-- A block that is kept: its cells. -/
def Box (R : Nat → Prop) (H : Heap) (b : Nat) (cs : List Value) : Prop := R b ∧ ∃ sz own, H.get b = some ⟨cs, sz, own⟩
theorem Box.keep {R : Nat → Prop} {H H' : Heap} {b : Nat} {cs : List Value} (h : Box R H b cs) (hk : Keep R H H') : Box R H' b cs := by
  obtain ⟨h1, s, o, h2⟩ := h
  exact ⟨h1, s, o, by rw [hk.2 b h1]; exact h2⟩
theorem Box.mono {R R' : Nat → Prop} {H : Heap} {b : Nat} {cs : List Value} (h : Box R H b cs) (hR : ∀ b, R b → R' b) : Box R' H b cs := ⟨hR b h.1, h.2⟩
theorem Box.ld {R : Nat → Prop} {H : Heap} {b k : Nat} {cs : List Value} {v : Value} (h : Box R H b cs) (hv : cs[k]? = some v) : ldC (ptr b k) H = some (v, H) := by
  obtain ⟨h1, s, o, h2⟩ := h
  simp only [ldC, h2, hv]
theorem Box.ldA {R : Nat → Prop} {H : Heap} {b k n : Nat} {cs : List Value} (h : Box R H b cs) (hn : k + n ≤ cs.length) : Eng.ldA n (ptr b k) H = some (.agg (cut cs k n).toArray, H) := by
  obtain ⟨h1, s, o, h2⟩ := h
  simp only [Eng.ldA, h2, if_pos hn]
theorem Box.all {R : Nat → Prop} {H : Heap} {b n : Nat} {cs : List Value} (h : Box R H b cs) (hn : n = cs.length) : Eng.ldA n (ptr b 0) H = some (.agg cs.toArray, H) := by
  rw [h.ldA (by omega)]
  simp [cut, hn]
theorem Box.blk {R : Nat → Prop} {H H' : Heap} {b k : Nat} {cs : List Value} (h : Box R H b cs) (hk : Keep R H H') : sameBlk H H' (blkOf (ptr b k)) = true := sameBlk_of fun c hc => by
  simp [blkOf] at hc; subst hc; exact hk.2 b h.1
theorem Box.blkP {R : Nat → Prop} {H H' : Heap} {b k : Nat} {cs : List Value} {blk : Blk} (h : Box R H b cs) (hR : Rb R H) (hk : Keep R H H') : sameBlk (H.push blk) H' (blkOf (ptr b k)) = true := sameBlk_of fun c hc => by
  simp [blkOf] at hc; subst hc; rw [push_lt (hR _ h.1)]; exact hk.2 b h.1
theorem newV_box {H : Heap} {cs : List Value} (h : cs.all oneC = true) : newV cs H = some (ptr H.n 0, H.push ⟨cs, 1, true⟩) := by
  simp only [newV, h, if_true]
theorem push_box {R : Nat → Prop} {H : Heap} {blk : Blk} : Box (plus R H (H.push blk)) (H.push blk) H.n blk.cells := ⟨.inr ⟨Nat.le_refl _, by simp [push_n]⟩, _, _, push_self⟩
theorem push_boxA {H : Heap} {blk : Blk} : Box (all (H.push blk)) (H.push blk) H.n blk.cells := ⟨by simp [all, push_n], _, _, push_self⟩
theorem push_keep {H : Heap} {blk : Blk} : Keep (all H) H (H.push blk) := Keep.push (Rb.all H)
theorem upA {A B : Heap} (h : Keep (all A) A B) : ∀ b, all A b → all B b := fun b hb => Nat.lt_of_lt_of_le hb h.1
/-- A box that is written whole. -/
theorem push_st {H : Heap} {cs ds : List Value} {n : Nat} (hn : cs.length = n) (hd : ds.length = n) (h : ds.all oneC = true) : stV n (ptr H.n 0) (.agg ds.toArray) (H.push ⟨cs, 1, true⟩) = some (undef, (H.push ⟨cs, 1, true⟩).upd H.n (some ⟨ds, 1, true⟩)) := by
  subst hn
  have e : splice cs 0 ds = ds := by simp [splice, hd]
  have h' : ds.all Value.oneCell' = true := h
  simp only [stV, push_self, Value.cells, e]
  rw [if_pos]
  exact ⟨by simp [hd], h', by omega, trivial⟩
theorem push_upd {H : Heap} {a : Blk} {b : Blk} {R : Nat → Prop} (hR : Rb R H) : Keep R H ((H.push a).upd H.n (some b)) := ⟨by simp [upd_n, push_n], fun c hc => by
  have := hR c hc
  rw [upd_ne (by omega), push_lt this]⟩
theorem push_upd_box {H : Heap} {a b : Blk} {R : Nat → Prop} : Box (plus R H ((H.push a).upd H.n (some b))) ((H.push a).upd H.n (some b)) H.n b.cells := ⟨.inr ⟨Nat.le_refl _, by simp [upd_n, push_n]⟩, _, _, upd_self⟩
theorem Sli.plus {α : Type} [Rp α] {R : Nat → Prop} {H H' : Heap} {xs : List α} {v : Value} (h : Sli R H xs v) (hk : Keep R H H') : Sli (plus R H H') H' xs v := (h.keep hk).mono plus_le

theorem ldA_two {H : Heap} {b o : Nat} {x y : Value} (h1 : ldC (ptr b o) H = some (x, H)) (h2 : ldC (ptr b (o + 1)) H = some (y, H)) : Eng.ldA 2 (ptr b o) H = some (.agg [x, y].toArray, H) := by
  simp only [ldC] at h1 h2
  cases hb : H.get b with
  | none => rw [hb] at h1; cases h1
  | some blk =>
    rw [hb] at h1 h2
    simp only at h1 h2
    have e1 : blk.cells[o]? = some x := by
      cases hx : blk.cells[o]? with
      | none => rw [hx] at h1; cases h1
      | some z => rw [hx] at h1; simpa using h1
    have e2 : blk.cells[o + 1]? = some y := by
      cases hx : blk.cells[o + 1]? with
      | none => rw [hx] at h2; cases h2
      | some z => rw [hx] at h2; simpa using h2
    obtain ⟨l1, g1⟩ := List.getElem?_eq_some_iff.1 e1
    obtain ⟨l2, g2⟩ := List.getElem?_eq_some_iff.1 e2
    simp only [Eng.ldA, hb]
    rw [if_pos (by omega)]
    simp only [cut]
    rw [List.drop_eq_getElem_cons l1, List.drop_eq_getElem_cons l2, g1, g2]
    rfl

/-! ### kinds -/
structure Lv where
  N : Int
  K : Int
  deriving DecidableEq
structure Pt where
  T : Int
  P : ByteArray
  deriving DecidableEq
structure Pd where
  L : Int
  R : List Int
  V : Lv
  deriving DecidableEq
structure Gr where
  terms : List ByteArray
  levels : List Lv
  pats : List Pt
  nons : List ByteArray
  prods : List Pd
  deriving DecidableEq
instance : Rp Lv := Rp.via fun x => (x.N, x.K, ())
instance : Rp Pt := Rp.via fun x => (x.T, x.P, ())
instance : Rp Pd := Rp.via fun x => (x.L, x.R, x.V, ())
instance : Rp Gr := Rp.via fun x => (x.terms, x.levels, x.pats, x.nons, x.prods, ())
def inI (n : Int) : Prop := -9223372036854775808 ≤ n ∧ n < 9223372036854775808
section
variable {R : Nat → Prop} {H : Heap} {cs : List Value}
theorem rep_lv {x : Lv} (h : Rp.rep R H x cs) : cs = [.int .i64 x.N, .int .i64 x.K] ∧ inI x.N ∧ inI x.K := by
  obtain ⟨a, b, rfl, ⟨rfl, h1⟩, c, d, rfl, ⟨rfl, h2⟩, rfl⟩ := h
  exact ⟨rfl, h1, h2⟩
theorem rep_lv_mk {x : Lv} (h1 : inI x.N) (h2 : inI x.K) : Rp.rep R H x [.int .i64 x.N, .int .i64 x.K] := ⟨_, _, rfl, ⟨rfl, h1⟩, _, _, rfl, ⟨rfl, h2⟩, rfl⟩
theorem rep_pt {x : Pt} (h : Rp.rep R H x cs) : cs = [.int .i64 x.T, .string x.P] ∧ inI x.T := by
  obtain ⟨a, b, rfl, ⟨rfl, h1⟩, c, d, rfl, rfl, rfl⟩ := h
  exact ⟨rfl, h1⟩
theorem rep_pd {x : Pd} (h : Rp.rep R H x cs) : ∃ v, cs = [.int .i64 x.L, v, .int .i64 x.V.N, .int .i64 x.V.K] ∧ Sli R H x.R v ∧ inI x.L ∧ inI x.V.N ∧ inI x.V.K := by
  obtain ⟨a, b, rfl, ⟨rfl, h1⟩, c, d, rfl, ⟨v, rfl, hv⟩, e, f, rfl, h3, rfl⟩ := h
  obtain ⟨rfl, h4, h5⟩ := rep_lv h3
  exact ⟨v, rfl, hv, h1, h4, h5⟩
theorem rep_pd_mk {x : Pd} {v : Value} (hv : Sli R H x.R v) (h1 : inI x.L) (h2 : inI x.V.N) (h3 : inI x.V.K) : Rp.rep R H x [.int .i64 x.L, v, .int .i64 x.V.N, .int .i64 x.V.K] :=
  ⟨_, _, rfl, ⟨rfl, h1⟩, _, _, rfl, ⟨v, rfl, hv⟩, _, _, rfl, rep_lv_mk h2 h3, rfl⟩
theorem rep_gr {x : Gr} (h : Rp.rep R H x cs) : ∃ v0 v1 v2 v3 v4, cs = [v0, v1, v2, v3, v4] ∧ Sli R H x.terms v0 ∧ Sli R H x.levels v1 ∧ Sli R H x.pats v2 ∧ Sli R H x.nons v3 ∧ Sli R H x.prods v4 := by
  obtain ⟨a, b, rfl, ⟨v0, rfl, h0⟩, c, d, rfl, ⟨v1, rfl, h1⟩, e, f, rfl, ⟨v2, rfl, h2⟩, g, i, rfl, ⟨v3, rfl, h3⟩, j, k, rfl, ⟨v4, rfl, h4⟩, rfl⟩ := h
  exact ⟨v0, v1, v2, v3, v4, rfl, h0, h1, h2, h3, h4⟩
theorem rep_gr_mk {x : Gr} {v0 v1 v2 v3 v4 : Value} (h0 : Sli R H x.terms v0) (h1 : Sli R H x.levels v1) (h2 : Sli R H x.pats v2) (h3 : Sli R H x.nons v3) (h4 : Sli R H x.prods v4) : Rp.rep R H x [v0, v1, v2, v3, v4] :=
  ⟨_, _, rfl, ⟨_, rfl, h0⟩, _, _, rfl, ⟨_, rfl, h1⟩, _, _, rfl, ⟨_, rfl, h2⟩, _, _, rfl, ⟨_, rfl, h3⟩, _, _, rfl, ⟨_, rfl, h4⟩, rfl⟩
end
/-- A list of numbers as cells. -/
theorem Sli.ints {R : Nat → Prop} {H : Heap} {xs : List Int} {v : Value} (h : Sli R H xs v) : Sl R H 1 v xs.length (I xs) ∧ ∀ x ∈ xs, inI x := by
  obtain ⟨cs, h1, h2⟩ := h
  have : ∀ {xs : List Int} {cs : List Value}, RpL R H xs cs → cs = I xs ∧ ∀ x ∈ xs, inI x := by
    intro xs cs h
    induction h with
    | nil => exact ⟨rfl, by simp⟩
    | cons h t ih =>
      obtain ⟨rfl, hx⟩ := h
      obtain ⟨rfl, hr⟩ := ih
      refine ⟨rfl, fun y hy => ?_⟩
      rcases List.mem_cons.1 hy with rfl | hy
      · exact hx
      · exact hr y hy
  obtain ⟨rfl, hr⟩ := this h2
  exact ⟨h1, hr⟩
theorem Sli.int {R : Nat → Prop} {H : Heap} {xs : List Int} {v : Value} (h : Sli R H xs v) {i : Nat} {x : Int} (hs : xs[i]? = some x) : ∃ p, iAddrS 1 v (.int .i64 i) = some p ∧ ldC p H = some (.int .i64 x, H) := by
  obtain ⟨b, o, c, g1, g2, g3, g4, g5⟩ := h.at hs
  obtain ⟨rfl, _⟩ := g3
  exact ⟨_, g1, g4 0 _ rfl⟩
/-- A struct in a list. -/
theorem Sli.rec {α : Type} [Rp α] {R : Nat → Prop} {H : Heap} {xs : List α} {v : Value} (h : Sli R H xs v) {i : Nat} {x : α} (hx : xs[i]? = some x) : ∃ b o c, iAddrS (Rp.sz α) v (.int .i64 i) = some (ptr b o) ∧ R b ∧ Rp.rep R H x c ∧
    (∀ (k : Nat) y, c[k]? = some y → ldC (ptr b (o + k)) H = some (y, H)) ∧ ldA (Rp.sz α) (ptr b o) H = some (.agg c.toArray, H) := h.at hx

/-! ### the numbers of a grammar -/
def lvN (l : List Lv) : List Int := l.flatMap fun x => [x.N, x.K]
def pdN (p : Pd) : List Int := [p.L, (p.R.length : Int)] ++ p.R ++ [p.V.N, p.V.K]
def pdsN (l : List Pd) : List Int := l.flatMap pdN
def partN (g : Gr) : List Int := [(g.terms.length : Int), (g.nons.length : Int)] ++ lvN g.levels ++ [(g.prods.length : Int)] ++ pdsN g.prods
theorem lvN_cons (x : Lv) (l : List Lv) : lvN (x :: l) = x.N :: x.K :: lvN l := rfl
theorem pdsN_cons (x : Pd) (l : List Pd) : pdsN (x :: l) = pdN x ++ pdsN l := by simp [pdsN]
theorem lvN_len (l : List Lv) : (lvN l).length = 2 * l.length := by
  induction l with
  | nil => rfl
  | cons x l ih => rw [lvN_cons]; simp only [List.length_cons, ih]; omega
def pvol (l : List Pd) : Nat := (pdsN l).length
theorem nbs_len (l : List Int) : (nbs l).length ≤ 9 * l.length := by
  induction l with
  | nil => simp [nbs]
  | cons x l ih => have := nb_len x; simp only [nbs, List.flatMap_cons, List.length_append, List.length_cons] at ih ⊢; omega
end Go.Eng
