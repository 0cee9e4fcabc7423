/- KeysGrammars over the small machine; names taken off. -/
import Derived.Test.YtjnpiaigiljpjaaKT
set_option linter.unusedVariables false
set_option linter.unusedSimpArgs false
namespace Go.Eng
open Go Go.Proofs

theorem GB.up {H H' : Heap} {g : Gr} {b : Nat} {v0 v1 v2 v3 v4 : Value} (h : GB (all H) H g b v0 v1 v2 v3 v4) (k : Keep (all H) H H') : GB (all H') H' g b v0 v1 v2 v3 v4 := (h.keep k).mono (upA k)
theorem Sl.up {H H' : Heap} {sz n : Nat} {v : Value} {cs : List Value} (h : Sl (all H) H sz v n cs) (k : Keep (all H) H H') : Sl (all H') H' sz v n cs := (h.keep k).mono (upA k)
theorem Sli.up {α : Type} [Rp α] {H H' : Heap} {xs : List α} {v : Value} (h : Sli (all H) H xs v) (k : Keep (all H) H H') : Sli (all H') H' xs v := (h.keep k).mono (upA k)
theorem Keep.tr {a b c : Heap} (h : Keep (all a) a b) (h' : Keep (all b) b c) : Keep (all a) a c := h.trans (h'.mono (upA h))
theorem GB.rep {R : Nat → Prop} {H : Heap} {g : Gr} {b : Nat} {v0 v1 v2 v3 v4 : Value} (h : GB R H g b v0 v1 v2 v3 v4) : Rp.rep R H g [v0, v1, v2, v3, v4] := rep_gr_mk h.s0 h.s1 h.s2 h.s3 h.s4
/-- What is small enough. -/
structure Fits (g : Gr) : Prop where
  s : Small g
  v : gvol g ≤ 10000000000
  p : ptvol g.pats ≤ 10000000000

theorem nbs_byte (l : List Int) : ∀ x ∈ nbs l, x < 256 := fun x hx => by
  obtain ⟨s, _, h⟩ := List.mem_flatMap.1 hx
  exact nb_byte s x h
theorem pkey_byte (g : Gr) : ∀ x ∈ pkey g, x < 256 := fun x hx => by
  rcases List.mem_append.1 hx with h | h
  · exact nb_byte _ x h
  · exact nbs_byte _ x h
theorem ptsB_byte (l : List Pt) : ∀ x ∈ ptsB l, x < 256 := fun x hx => by
  obtain ⟨s, _, h⟩ := List.mem_flatMap.1 hx
  rcases List.mem_append.1 h with h | h
  · exact nb_byte _ x h
  · exact tb_byte _ x h
theorem tkey_byte (g : Gr) : ∀ x ∈ tkey g, x < 256 := fun x hx => by
  rcases List.mem_append.1 hx with h | h
  · rcases List.mem_append.1 h with h | h
    · rcases List.mem_append.1 h with h | h
      · exact nb_byte _ x h
      · exact nb_byte _ x h
    · exact ptsB_byte _ x h
  · exact nbs_byte _ x h
theorem endL_byte {e : Int} {l : List Nat} (h : ∀ x ∈ l, x < 256) : ∀ x ∈ endL e l, x < 256 := fun x hx => by
  unfold endL at hx
  split at hx
  · split at hx
    · cases hx
    · exact h x hx
  · cases hx
theorem endL_len (e : Int) (l : List Nat) : (endL e l).length ≤ 65536 := by
  unfold endL
  split
  · split
    · simp
    · omega
  · simp

theorem grammars_law {H : Heap} {g : Gr} {cs : List Value} (hg : Rp.rep (all H) H g cs) (fg : Fits g) : ∃ H', Cl 6 [.agg cs.toArray] H (.bool true) H' ∧ Keep (all H) H H' := by
  have hv := fg.v
  have hp := fg.p
  have hd := fg.s.d
  obtain ⟨v0, v1, v2, v3, v4, rfl, hnew, gb, k1⟩ := GB.enter (Rb.all H) hg
  generalize hH1 : H.push ⟨[v0, v1, v2, v3, v4], 1, true⟩ = H1 at hnew gb k1
  have g1 := gb.allOf k1
  obtain ⟨w0, w1, w2, w3, w4, H2, c0, c3, q, k2, h1, z0, y0, z3, y3, hne, s1, s2, s4⟩ := copy_gr g1.rep fg.s
  let H3 := (H2.push ⟨[nilS, nilS, nilS, nilS, nilS], 1, true⟩).upd H2.n (some ⟨[w0, w1, w2, w3, w4], 1, true⟩)
  have k3 : Keep (all H2) H2 H3 := push_upd (Rb.all H2)
  have e3 : newV [nilS, nilS, nilS, nilS, nilS] H2 = some (ptr H2.n 0, H2.push ⟨[nilS, nilS, nilS, nilS, nilS], 1, true⟩) := newV_box rfl
  have st : stV 5 (ptr H2.n 0) (.agg [w0, w1, w2, w3, w4].toArray) (H2.push ⟨[nilS, nilS, nilS, nilS, nilS], 1, true⟩) = some (undef, H3) := push_st rfl rfl h1
  have cg2 : Sli (all H2) H2 g.terms w0 ∧ Sli (all H2) H2 g.nons w3 := ⟨⟨c0, z0.read fun b _ h => h, any_str y0⟩, ⟨c3, z3.read fun b _ h => h, any_str y3⟩⟩
  have cg3 : GB (all H3) H3 g H2.n w0 w1 w2 w3 w4 := ⟨⟨by show H2.n < H3.n; simp [H3, upd_n, push_n], _, _, upd_self⟩, cg2.1.up k3, (s1.mono fun b h => h.2.1).up k3, (s2.mono fun b h => h.2.1).up k3, cg2.2.up k3, (s4.mono fun b h => h.2.1).up k3⟩
  have g3 := (g1.up k2).up k3
  obtain ⟨x4, H4, p1, p2, p3⟩ := parser_ok cg3.rep (by omega) hd
  have g4 := g3.up p3
  have cg4 := cg3.up p3
  obtain ⟨x5, H5, r1, r2, r3⟩ := rparser_ok g4.rep (by omega) hd
  have g5 := g4.up r3
  have cg5 := cg4.up r3
  obtain ⟨x6, H6, t1, t2, t3⟩ := tables_ok cg5.rep (by omega) hd
  have g6 := g5.up t3
  have cg6 := cg5.up t3
  obtain ⟨x7, H7, u1, u2, u3⟩ := rtables_ok g6.rep (by omega) hd
  have g7 := g6.up u3
  have cg7 := cg6.up u3
  have a4 := ((p2.sl.up r3).up t3).up u3
  have a5 := (r2.sl.up t3).up u3
  have a6 := t2.sl.up u3
  have a7 := u2.sl
  obtain ⟨H8, m1, m2⟩ := gsame_ok cg7.rep g7.rep fg.s fg.s
  have b4 := a4.up m2
  have b5 := a5.up m2
  have b6 := a6.up m2
  have b7 := a7.up m2
  have l1 := endL_len (gE g) (pkey g)
  have l2 := endL_len (tE g) (tkey g)
  refine ⟨H8, ?_, k1.tr (k2.tr (k3.tr (p3.tr (r3.tr (t3.tr (u3.tr m2))))))⟩
  refine Ev.enter (fun n => f6_eq rfl n _ _) ?_
  simp only [f6, real_b, real_i, real_c, chk_t, bnd_some, bnd_up, iff_t, iff_f, gd_t, gd_f, wd_b, wd_u, pick_t, pick_f, b_lss, b_leq, b_gtr, b_geq, b_eql, b_neq, b_seql, b_sneq, b_add, b_sub, u_not, nilC_ptr, fAddr_ptr, Nat.zero_add, extr0, extr1, extr2, lenStr, decide_true, decide_false, bt_tt, bt_tf, bt_ft, bt_ff, bt_bne, Bool.not_true, Bool.not_false, Int.reduceBEq, Int.reduceBNe, hnew, g1.dA]
  refine Ev.callC q ?_
  simp only [real_b, real_i, real_c, chk_t, bnd_some, bnd_up, iff_t, iff_f, gd_t, gd_f, wd_b, wd_u, pick_t, pick_f, b_lss, b_leq, b_gtr, b_geq, b_eql, b_neq, b_seql, b_sneq, b_add, b_sub, u_not, nilC_ptr, fAddr_ptr, Nat.zero_add, extr0, extr1, extr2, lenStr, decide_true, decide_false, bt_tt, bt_tf, bt_ft, bt_ff, bt_bne, Bool.not_true, Bool.not_false, Int.reduceBEq, Int.reduceBNe, show newV [.slice none 0 0, .slice none 0 0, .slice none 0 0, .slice none 0 0, .slice none 0 0] H2 = _ from e3, st, cg3.dA]
  refine Ev.callC p1 ?_
  simp only [real_b, real_i, real_c, chk_t, bnd_some, bnd_up, iff_t, iff_f, gd_t, gd_f, wd_b, wd_u, pick_t, pick_f, b_lss, b_leq, b_gtr, b_geq, b_eql, b_neq, b_seql, b_sneq, b_add, b_sub, u_not, nilC_ptr, fAddr_ptr, Nat.zero_add, extr0, extr1, extr2, lenStr, decide_true, decide_false, bt_tt, bt_tf, bt_ft, bt_ff, bt_bne, Bool.not_true, Bool.not_false, Int.reduceBEq, Int.reduceBNe, g4.dA]
  refine Ev.callC r1 ?_
  simp only [real_b, real_i, real_c, chk_t, bnd_some, bnd_up, iff_t, iff_f, gd_t, gd_f, wd_b, wd_u, pick_t, pick_f, b_lss, b_leq, b_gtr, b_geq, b_eql, b_neq, b_seql, b_sneq, b_add, b_sub, u_not, nilC_ptr, fAddr_ptr, Nat.zero_add, extr0, extr1, extr2, lenStr, decide_true, decide_false, bt_tt, bt_tf, bt_ft, bt_ff, bt_bne, Bool.not_true, Bool.not_false, Int.reduceBEq, Int.reduceBNe, cg5.dA]
  refine Ev.callC t1 ?_
  simp only [real_b, real_i, real_c, chk_t, bnd_some, bnd_up, iff_t, iff_f, gd_t, gd_f, wd_b, wd_u, pick_t, pick_f, b_lss, b_leq, b_gtr, b_geq, b_eql, b_neq, b_seql, b_sneq, b_add, b_sub, u_not, nilC_ptr, fAddr_ptr, Nat.zero_add, extr0, extr1, extr2, lenStr, decide_true, decide_false, bt_tt, bt_tf, bt_ft, bt_ff, bt_bne, Bool.not_true, Bool.not_false, Int.reduceBEq, Int.reduceBNe, g6.dA]
  refine Ev.callC u1 ?_
  simp only [real_b, real_i, real_c, chk_t, bnd_some, bnd_up, iff_t, iff_f, gd_t, gd_f, wd_b, wd_u, pick_t, pick_f, b_lss, b_leq, b_gtr, b_geq, b_eql, b_neq, b_seql, b_sneq, b_add, b_sub, u_not, nilC_ptr, fAddr_ptr, Nat.zero_add, extr0, extr1, extr2, lenStr, decide_true, decide_false, bt_tt, bt_tf, bt_ft, bt_ff, bt_bne, Bool.not_true, Bool.not_false, Int.reduceBEq, Int.reduceBNe]
  refine Ev.callC (eq_ok a4 a5 (by omega)) ?_
  simp only [real_b, real_i, real_c, chk_t, bnd_some, bnd_up, iff_t, iff_f, gd_t, gd_f, wd_b, wd_u, pick_t, pick_f, b_lss, b_leq, b_gtr, b_geq, b_eql, b_neq, b_seql, b_sneq, b_add, b_sub, u_not, nilC_ptr, fAddr_ptr, Nat.zero_add, extr0, extr1, extr2, lenStr, decide_true, decide_false, bt_tt, bt_tf, bt_ft, bt_ff, bt_bne, Bool.not_true, Bool.not_false, Int.reduceBEq, Int.reduceBNe, beq_self_eq_true]
  refine Ev.callC (eq_ok a6 a7 (by omega)) ?_
  simp only [real_b, real_i, real_c, chk_t, bnd_some, bnd_up, iff_t, iff_f, gd_t, gd_f, wd_b, wd_u, pick_t, pick_f, b_lss, b_leq, b_gtr, b_geq, b_eql, b_neq, b_seql, b_sneq, b_add, b_sub, u_not, nilC_ptr, fAddr_ptr, Nat.zero_add, extr0, extr1, extr2, lenStr, decide_true, decide_false, bt_tt, bt_tf, bt_ft, bt_ff, bt_bne, Bool.not_true, Bool.not_false, Int.reduceBEq, Int.reduceBNe, beq_self_eq_true, cg7.dA, g7.dA]
  refine Ev.callC m1 ?_
  simp only [real_b, real_i, real_c, chk_t, bnd_some, bnd_up, iff_t, iff_f, gd_t, gd_f, wd_b, wd_u, pick_t, pick_f, b_lss, b_leq, b_gtr, b_geq, b_eql, b_neq, b_seql, b_sneq, b_add, b_sub, u_not, nilC_ptr, fAddr_ptr, Nat.zero_add, extr0, extr1, extr2, lenStr, decide_true, decide_false, bt_tt, bt_tf, bt_ft, bt_ff, bt_bne, Bool.not_true, Bool.not_false, Int.reduceBEq, Int.reduceBNe]
  refine Ev.callC (kind_ok b4 (endL_byte (pkey_byte g))) ?_
  refine Ev.callC (rkind_ok b5 (endL_byte (pkey_byte g))) ?_
  simp only [real_b, real_i, real_c, chk_t, bnd_some, bnd_up, iff_t, iff_f, gd_t, gd_f, wd_b, wd_u, pick_t, pick_f, b_lss, b_leq, b_gtr, b_geq, b_eql, b_neq, b_seql, b_sneq, b_add, b_sub, u_not, nilC_ptr, fAddr_ptr, Nat.zero_add, extr0, extr1, extr2, lenStr, decide_true, decide_false, bt_tt, bt_tf, bt_ft, bt_ff, bt_bne, Bool.not_true, Bool.not_false, Int.reduceBEq, Int.reduceBNe, beq_self_eq_true]
  refine Ev.callC (kind_ok b6 (endL_byte (tkey_byte g))) ?_
  refine Ev.callC (rkind_ok b7 (endL_byte (tkey_byte g))) ?_
  simp only [real_b, real_i, real_c, chk_t, bnd_some, bnd_up, iff_t, iff_f, gd_t, gd_f, wd_b, wd_u, pick_t, pick_f, b_lss, b_leq, b_gtr, b_geq, b_eql, b_neq, b_seql, b_sneq, b_add, b_sub, u_not, nilC_ptr, fAddr_ptr, Nat.zero_add, extr0, extr1, extr2, lenStr, decide_true, decide_false, bt_tt, bt_tf, bt_ft, bt_ff, bt_bne, Bool.not_true, Bool.not_false, Int.reduceBEq, Int.reduceBNe, beq_self_eq_true]
  refine Ev.callC (awake_ok _) ?_
  exact Ev.pure _

/-! ### names taken off -/
def bareG (g : Gr) (pats : Bool) : Gr := { g with terms := g.terms.map fun _ => .empty, nons := g.nons.map fun _ => .empty, pats := if pats then g.pats else [] }
/-- Strings that a slice of one's own has. -/
def OwnS (R : Nat → Prop) (H : Heap) (xs : List ByteArray) (v : Value) : Prop := Acc R H 1 v xs.length (xs.map Value.string)
theorem strs_cells {R : Nat → Prop} {H : Heap} {xs : List ByteArray} {cs : List Value} (h : RpL R H xs cs) : cs = xs.map Value.string := by
  induction h with
  | nil => rfl
  | cons h t ih => rw [show _ = _ from h, ih]; rfl
theorem strs_rep {R : Nat → Prop} {H : Heap} (xs : List ByteArray) : RpL R H xs (xs.map Value.string) := by
  induction xs with
  | nil => exact .nil
  | cons x xs ih => exact .cons (c := [.string x]) rfl ih
theorem OwnS.sli {R R' : Nat → Prop} {H : Heap} {xs : List ByteArray} {v : Value} (h : OwnS R H xs v) (hR : ∀ b, ¬ R b → b < H.n → R' b) : Sli R' H xs v := ⟨_, h.read hR, strs_rep xs⟩

/-- The names so far are gone. -/
def blank (k : Nat) (xs : List ByteArray) : List ByteArray := (xs.take k).map (fun _ => ByteArray.empty) ++ xs.drop k
theorem blank_len (k : Nat) (xs : List ByteArray) : (blank k xs).length = xs.length := by
  simp only [blank, List.length_append, List.length_map, List.length_take, List.length_drop]; omega
theorem blank_all (xs : List ByteArray) : blank xs.length xs = xs.map fun _ => .empty := by simp [blank]
theorem blank_zero (xs : List ByteArray) : blank 0 xs = xs := by simp [blank]
theorem blank_set {k : Nat} {xs : List ByteArray} (h : k < xs.length) : (blank k xs).set k .empty = blank (k + 1) xs := by
  obtain ⟨x, hx, hd⟩ := drop_at h
  have ht : xs.take (k + 1) = xs.take k ++ [x] := by rw [List.take_add_one, hx]; rfl
  have hl : ((xs.take k).map fun _ => ByteArray.empty).length = k := by simp; omega
  simp only [blank, ht, hd, List.map_append, List.append_assoc]
  rw [List.set_append_right _ _ (by omega)]
  simp [show k - min k xs.length = 0 by omega]

theorem bare_loop {fld : Nat} {cs : List Value} {gb : Nat} {xs : List ByteArray} {w : Value} (hn : xs.length < 9223372036854775807) (hcs : cs[fld]? = some w) {Q : Nat → Prop} (hgb : Q gb) (hw : ∀ b, blkOf w = some b → ¬ Q b) {H : Heap} (hO : H.get gb = some ⟨cs, 1, true⟩) {k : Nat} (hk : k < xs.length) (hA : OwnS Q H (blank k xs) w) :
    ∃ p H', lenS w = some (.int .i64 (xs.length : Int)) ∧ iAddrS 1 w (.int .i64 (k : Int)) = some p ∧ stV 1 p (.string ⟨#[]⟩) H = some (undef, H') ∧ OwnS Q H' (blank (k + 1) xs) w ∧ H'.get gb = some ⟨cs, 1, true⟩ ∧ Keep Q H H' ∧ H'.n = H.n := by
  have hl := blank_len k xs
  obtain ⟨p, p1, _⟩ := Acc.at1 hA (i := k) (x := .string ((blank k xs)[k]'(by omega))) (by simp [hl, hk])
  obtain ⟨H', s1, s2, s3, s4⟩ := Acc.set1 (y := .string ⟨#[]⟩) hA (show k < (blank k xs).length by omega) p1 rfl rfl
  refine ⟨p, H', ?_, p1, s1, ?_, (s3.2 gb hgb).trans hO, s3, s4⟩
  · have := hA.sl.lenS; rw [hl] at this; exact this
  · have e : ((blank k xs).map Value.string).set k (.string ⟨#[]⟩) = (blank (k + 1) xs).map Value.string := by
      rw [← blank_set hk, List.map_set]; rfl
    rw [e] at s2
    unfold OwnS
    rw [blank_len] at s2 ⊢
    exact s2

theorem bare_terms {g : Gr} {gb x4 : Nat} {w0 w1 w2 w3 w4 : Value} {fl : Bool} {Q : Nat → Prop} (hn : g.terms.length < 9223372036854775807) (hgb : Q gb) (hw : ∀ b, blkOf w0 = some b → ¬ Q b) : ∀ (k i : Nat), i + k = g.terms.length → ∀ (H : Heap), H.get gb = some ⟨[w0, w1, w2, w3, w4], 1, true⟩ → OwnS Q H (blank i g.terms) w0 →
    ∃ H', H'.get gb = some ⟨[w0, w1, w2, w3, w4], 1, true⟩ ∧ OwnS Q H' (g.terms.map fun _ => ByteArray.empty) w0 ∧ Keep Q H H' ∧ H'.n = H.n ∧ ∀ r, Ev (fun n m => f26_L1 real (AC n) n n (.bool fl) (ptr gb 0) (ptr x4 0) (.int .i64 0) H') r → Ev (fun n m => f26_L0 real (AC n) n m (.bool fl) (ptr gb 0) (ptr x4 0) (.int .i64 (i : Int)) H) r := by
  intro k
  induction k with
  | zero =>
    intro i hi H hO hA
    have hi' : i = g.terms.length := by omega
    subst hi'
    have hA' := hA
    rw [blank_all] at hA
    refine ⟨H, hO, hA, Keep.refl _ _, rfl, fun r hr => ?_⟩
    have bx : Box (fun b => b = gb) H gb [w0, w1, w2, w3, w4] := ⟨rfl, _, _, hO⟩
    have hl := (hA'.sli (R' := fun _ => True) fun _ _ _ => trivial).lenS
    rw [blank_len] at hl
    refine Ev.step (fun n m => f26_L0.eq_2 _ _ _ _ _ _ _ _ _) ?_
    simp only [real_b, real_i, real_c, chk_t, bnd_some, bnd_up, iff_t, iff_f, gd_t, gd_f, wd_b, wd_u, pick_t, pick_f, b_lss, b_leq, b_gtr, b_geq, b_eql, b_neq, b_seql, b_sneq, b_add, b_sub, u_not, nilC_ptr, fAddr_ptr, Nat.zero_add, extr0, extr1, extr2, lenStr, decide_true, decide_false, bt_tt, bt_tf, bt_ft, bt_ff, bt_bne, Bool.not_true, Bool.not_false, Int.reduceBEq, Int.reduceBNe, bx.ld (k := 0) (v := w0) rfl, hl, idx_ge (Nat.le_refl g.terms.length)]
    exact hr
  | succ k ih =>
    intro i hi H hO hA
    obtain ⟨p, H1, b1, b2, b3, b4, b5, b6, b7⟩ := bare_loop (fld := 0) (xs := g.terms) hn rfl hgb hw hO (show i < g.terms.length by omega) hA
    obtain ⟨H', q1, q2, q3, q4, q5⟩ := ih (i + 1) (by omega) H1 b5 b4
    refine ⟨H', q1, q2, b6.trans q3, by omega, fun r hr => ?_⟩
    have bx : Box (fun b => b = gb) H gb [w0, w1, w2, w3, w4] := ⟨rfl, _, _, hO⟩
    refine Ev.step (fun n m => f26_L0.eq_2 _ _ _ _ _ _ _ _ _) ?_
    simp only [real_b, real_i, real_c, chk_t, bnd_some, bnd_up, iff_t, iff_f, gd_t, gd_f, wd_b, wd_u, pick_t, pick_f, b_lss, b_leq, b_gtr, b_geq, b_eql, b_neq, b_seql, b_sneq, b_add, b_sub, u_not, nilC_ptr, fAddr_ptr, Nat.zero_add, extr0, extr1, extr2, lenStr, decide_true, decide_false, bt_tt, bt_tf, bt_ft, bt_ff, bt_bne, Bool.not_true, Bool.not_false, Int.reduceBEq, Int.reduceBNe, bx.ld (k := 0) (v := w0) rfl, b1, idx_lt (show i < g.terms.length by omega), b2, b3, idx_up (show i < 9223372036854775807 by omega)]
    exact q5 r hr
theorem bare_nons {g : Gr} {gb x4 : Nat} {w0 w1 w2 w3 w4 : Value} {fl : Bool} {Q : Nat → Prop} (hn : g.nons.length < 9223372036854775807) (hgb : Q gb) (hw : ∀ b, blkOf w3 = some b → ¬ Q b) : ∀ (k i : Nat), i + k = g.nons.length → ∀ (H : Heap), H.get gb = some ⟨[w0, w1, w2, w3, w4], 1, true⟩ → OwnS Q H (blank i g.nons) w3 →
    ∃ H', H'.get gb = some ⟨[w0, w1, w2, w3, w4], 1, true⟩ ∧ OwnS Q H' (g.nons.map fun _ => ByteArray.empty) w3 ∧ Keep Q H H' ∧ H'.n = H.n ∧
      ∀ r, (fl = true → Ev (fun n m => f26_J1 real (AC n) n (ptr gb 0) (ptr x4 0) H') r) → (fl = false → Ev (fun n m => f26_J1 real (AC n) n (ptr gb 0) (ptr x4 0) (H'.upd gb (some ⟨[w0, w1, nilS, w3, w4], 1, true⟩))) r) → Ev (fun n m => f26_L1 real (AC n) n m (.bool fl) (ptr gb 0) (ptr x4 0) (.int .i64 (i : Int)) H) r := by
  intro k
  induction k with
  | zero =>
    intro i hi H hO hA
    have hi' : i = g.nons.length := by omega
    subst hi'
    have hA' := hA
    rw [blank_all] at hA
    refine ⟨H, hO, hA, Keep.refl _ _, rfl, fun r hr hr' => ?_⟩
    have bx : Box (fun b => b = gb) H gb [w0, w1, w2, w3, w4] := ⟨rfl, _, _, hO⟩
    have hl := (hA'.sli (R' := fun _ => True) fun _ _ _ => trivial).lenS
    rw [blank_len] at hl
    refine Ev.step (fun n m => f26_L1.eq_2 _ _ _ _ _ _ _ _ _) ?_
    cases fl with
    | true =>
      simp only [real_b, real_i, real_c, chk_t, bnd_some, bnd_up, iff_t, iff_f, gd_t, gd_f, wd_b, wd_u, pick_t, pick_f, b_lss, b_leq, b_gtr, b_geq, b_eql, b_neq, b_seql, b_sneq, b_add, b_sub, u_not, nilC_ptr, fAddr_ptr, Nat.zero_add, extr0, extr1, extr2, lenStr, decide_true, decide_false, bt_tt, bt_tf, bt_ft, bt_ff, bt_bne, Bool.not_true, Bool.not_false, Int.reduceBEq, Int.reduceBNe, bx.ld (k := 3) (v := w3) rfl, hl, idx_ge (Nat.le_refl g.nons.length)]
      exact hr rfl
    | false =>
      have st := stV1_box (k := 2) (w := nilS) hO (by simp) rfl rfl
      simp only [List.set_cons_zero, List.set_cons_succ] at st
      simp only [real_b, real_i, real_c, chk_t, bnd_some, bnd_up, iff_t, iff_f, gd_t, gd_f, wd_b, wd_u, pick_t, pick_f, b_lss, b_leq, b_gtr, b_geq, b_eql, b_neq, b_seql, b_sneq, b_add, b_sub, u_not, nilC_ptr, fAddr_ptr, Nat.zero_add, extr0, extr1, extr2, lenStr, decide_true, decide_false, bt_tt, bt_tf, bt_ft, bt_ff, bt_bne, Bool.not_true, Bool.not_false, Int.reduceBEq, Int.reduceBNe, bx.ld (k := 3) (v := w3) rfl, hl, idx_ge (Nat.le_refl g.nons.length), show stV 1 (ptr gb 2) (.slice none 0 0) H = _ from st]
      exact hr' rfl
  | succ k ih =>
    intro i hi H hO hA
    obtain ⟨p, H1, b1, b2, b3, b4, b5, b6, b7⟩ := bare_loop (fld := 3) (xs := g.nons) hn rfl hgb hw hO (show i < g.nons.length by omega) hA
    obtain ⟨H', q1, q2, q3, q4, q5⟩ := ih (i + 1) (by omega) H1 b5 b4
    refine ⟨H', q1, q2, b6.trans q3, by omega, fun r hr hr' => ?_⟩
    have bx : Box (fun b => b = gb) H gb [w0, w1, w2, w3, w4] := ⟨rfl, _, _, hO⟩
    refine Ev.step (fun n m => f26_L1.eq_2 _ _ _ _ _ _ _ _ _) ?_
    simp only [real_b, real_i, real_c, chk_t, bnd_some, bnd_up, iff_t, iff_f, gd_t, gd_f, wd_b, wd_u, pick_t, pick_f, b_lss, b_leq, b_gtr, b_geq, b_eql, b_neq, b_seql, b_sneq, b_add, b_sub, u_not, nilC_ptr, fAddr_ptr, Nat.zero_add, extr0, extr1, extr2, lenStr, decide_true, decide_false, bt_tt, bt_tf, bt_ft, bt_ff, bt_bne, Bool.not_true, Bool.not_false, Int.reduceBEq, Int.reduceBNe, bx.ld (k := 3) (v := w3) rfl, b1, idx_lt (show i < g.nons.length by omega), b2, b3, idx_up (show i < 9223372036854775807 by omega)]
    exact q5 r hr hr'

theorem stV_all {H : Heap} {b : Nat} {zs cs : List Value} (hO : H.get b = some ⟨zs, 1, true⟩) (hl : zs.length = cs.length) (h1 : cs.all oneC = true) : stV cs.length (ptr b 0) (.agg cs.toArray) H = some (undef, H.upd b (some ⟨cs, 1, true⟩)) := by
  have h' : cs.all Value.oneCell' = true := h1
  have e : splice zs 0 cs = cs := by simp [splice, hl]
  simp only [stV, hO, Value.cells, e]
  rw [if_pos]
  exact ⟨by simp, h', by omega, trivial⟩
theorem bare_end {H : Heap} {gb x4 : Nat} {cs zs : List Value} (hO : H.get gb = some ⟨cs, 1, true⟩) (hO4 : H.get x4 = some ⟨zs, 1, true⟩) (hc : cs.length = 5) (hz : zs.length = 5) (h1 : cs.all oneC = true) :
    Ev (fun n m => f26_J1 real (AC n) n (ptr gb 0) (ptr x4 0) H) (.agg cs.toArray, H.upd x4 (some ⟨cs, 1, true⟩)) := by
  have b1 : Box (fun b => b = gb) H gb cs := ⟨rfl, _, _, hO⟩
  have b2 : Box (fun b => b = x4) (H.upd x4 (some ⟨cs, 1, true⟩)) x4 cs := ⟨rfl, _, _, upd_self⟩
  have st := stV_all hO4 (by omega) h1
  rw [hc] at st
  simp only [f26_J1, real_b, real_i, real_c, chk_t, bnd_some, bnd_up, iff_t, iff_f, gd_t, gd_f, wd_b, wd_u, pick_t, pick_f, b_lss, b_leq, b_gtr, b_geq, b_eql, b_neq, b_seql, b_sneq, b_add, b_sub, u_not, nilC_ptr, fAddr_ptr, Nat.zero_add, extr0, extr1, extr2, lenStr, decide_true, decide_false, bt_tt, bt_tf, bt_ft, bt_ff, bt_bne, Bool.not_true, Bool.not_false, Int.reduceBEq, Int.reduceBNe, b1.all (show 5 = cs.length by omega), st, b2.all (show 5 = cs.length by omega)]
  exact Ev.pure _

theorem bare_ok {H : Heap} {g : Gr} {cs : List Value} {fl : Bool} (hg : Rp.rep (all H) H g cs) (sg : Small g) :
    ∃ ds H', Cl 26 [.agg cs.toArray, .bool fl] H (.agg ds.toArray) H' ∧ Rp.rep (all H') H' (bareG g fl) ds ∧ Keep (all H) H H' := by
  obtain ⟨v0, v1, v2, v3, v4, rfl, hnew, gb, k1⟩ := GB.enter (Rb.all H) hg
  generalize hH1 : H.push ⟨[v0, v1, v2, v3, v4], 1, true⟩ = H1 at hnew gb k1
  have hn1 : H1.n = H.n + 1 := by rw [← hH1]; rfl
  have hx2 : H1.get H.n = some ⟨[v0, v1, v2, v3, v4], 1, true⟩ := by rw [← hH1]; exact push_self
  let H2 := H1.push ⟨[nilS, nilS, nilS, nilS, nilS], 1, true⟩
  have hn2 : H2.n = H1.n + 1 := rfl
  have k2 : Keep (all H1) H1 H2 := push_keep
  have e2 : newV [nilS, nilS, nilS, nilS, nilS] H1 = some (ptr H1.n 0, H2) := newV_box rfl
  have g2 := (gb.allOf k1).up k2
  obtain ⟨w0, w1, w2, w3, w4, H3, c0, c3, q, k3, h1, z0, y0, z3, y3, hne, s1, s2, s4⟩ := copy_gr g2.rep sg
  have n3 := k3.1
  have hx2' : H3.get H.n = some ⟨[v0, v1, v2, v3, v4], 1, true⟩ := (k3.2 H.n (by show H.n < H2.n; omega)).trans ((k2.2 H.n (by show H.n < H1.n; omega)).trans hx2)
  have hx4 : H3.get H1.n = some ⟨[nilS, nilS, nilS, nilS, nilS], 1, true⟩ := (k3.2 H1.n (by show H1.n < H2.n; omega)).trans push_self
  let H4 := H3.upd H.n (some ⟨[w0, w1, w2, w3, w4], 1, true⟩)
  have st : stV 5 (ptr H.n 0) (.agg [w0, w1, w2, w3, w4].toArray) H3 = some (undef, H4) := stV_all (cs := [w0, w1, w2, w3, w4]) hx2' rfl h1
  have k4 : Keep (fun b => b ≠ H.n) H3 H4 := Keep.upd fun h => h rfl
  have r0 : ∀ b, blkOf w0 = some b → H2.n ≤ b ∧ b < H3.n := fun b hb => ⟨Nat.le_of_not_lt (z0.at hb).1, (z0.at hb).2⟩
  have r3 : ∀ b, blkOf w3 = some b → H2.n ≤ b ∧ b < H3.n := fun b hb => ⟨Nat.le_of_not_lt (z3.at hb).1, (z3.at hb).2⟩
  -- the terms
  let Q0 : Nat → Prop := fun b => b < H3.n ∧ blkOf w0 ≠ some b
  have o0 : OwnS Q0 H4 g.terms w0 := by
    rw [strs_cells y0] at z0
    exact (z0.gen (Q := fun b => b ≠ H.n) k4 fun b hb _ he => hb (by show b < H2.n; omega)).weak fun b hb h => h.2 hb
  obtain ⟨H5, t1, t2, t3, t4, t5⟩ := bare_terms (g := g) (x4 := H1.n) (fl := fl) (Q := Q0) (by have := sg.t; omega) (show Q0 H.n from ⟨by omega, fun h => by have := r0 _ h; omega⟩) (fun b hb h => h.2 hb) g.terms.length 0 (by omega) H4 upd_self (by rw [blank_zero]; exact o0)
  have n5 : H5.n = H3.n := by rw [t4]; rfl
  -- the names
  let Q3 : Nat → Prop := fun b => b < H3.n ∧ blkOf w3 ≠ some b
  have o3 : OwnS Q3 H5 g.nons w3 := by
    rw [strs_cells y3] at z3
    have : Acc (all H2) H4 1 w3 g.nons.length (g.nons.map Value.string) := z3.gen (Q := fun b => b ≠ H.n) k4 fun b hb _ he => hb (by show b < H2.n; omega)
    have h5 : Acc (fun b => b < H2.n ∨ blkOf w0 = some b) H4 1 w3 g.nons.length (g.nons.map Value.string) := this.weak fun b hb h => by
      rcases h with h | h
      · have := r3 b hb; omega
      · exact hne b h hb
    exact (h5.gen t3 fun b hb hl => ⟨hl, fun h => hb (.inr h)⟩).weak fun b hb h => h.2 hb
  obtain ⟨H6, u1, u2, u3, u4, u5⟩ := bare_nons (g := g) (x4 := H1.n) (fl := fl) (Q := Q3) (by have := sg.n; omega) (show Q3 H.n from ⟨by omega, fun h => by have := r3 _ h; omega⟩) (fun b hb h => h.2 hb) g.nons.length 0 (by omega) H5 t1 (by rw [blank_zero]; exact o3)
  have n6 : H6.n = H3.n := by omega
  -- what has been kept
  let Q : Nat → Prop := fun b => b < H3.n ∧ b ≠ H.n ∧ blkOf w0 ≠ some b ∧ blkOf w3 ≠ some b
  have k36 : Keep Q H3 H6 := (k4.mono fun b hb => hb.2.1).trans ((t3.mono fun b hb => ⟨hb.1, hb.2.2.1⟩).trans (u3.mono fun b hb => ⟨hb.1, hb.2.2.2⟩))
  have hx4' : H6.get H1.n = some ⟨[nilS, nilS, nilS, nilS, nilS], 1, true⟩ := (k36.2 H1.n ⟨by omega, by omega, fun h => by have := r0 _ h; omega, fun h => by have := r3 _ h; omega⟩).trans hx4
  have o0' : OwnS Q0 H6 (g.terms.map fun _ => .empty) w0 := t2.gen u3 fun b hb hl => ⟨by omega, fun h => hb ⟨by omega, fun h0 => hne b h0 h⟩⟩
  have hkeep : ∀ Hx : Heap, H6.n ≤ Hx.n → Keep (fun b => b ≠ H.n ∧ b ≠ H1.n) H6 Hx → Keep (all H) H Hx := fun Hx hn hk => (k1.tr (k2.tr k3)).trans ((k36.mono fun b hb => by
      have h : b < H.n := hb
      exact ⟨by omega, by omega, fun h => by have := r0 _ h; omega, fun h => by have := r3 _ h; omega⟩).trans (hk.mono fun b hb => by
      have h : b < H.n := hb
      constructor <;> omega))
  -- what lies where the copy's lists are (not the box, which is written again)
  have sl : ∀ (Hx : Heap), Keep (fun b => b ≠ H.n ∧ b ≠ H1.n) H6 Hx → Sli (all Hx) Hx (g.terms.map fun _ => ByteArray.empty) w0 ∧ Sli (all Hx) Hx (g.nons.map fun _ => ByteArray.empty) w3 := by
    intro Hx hk
    refine ⟨OwnS.sli (R := Q0) ?_ fun b _ h => h, OwnS.sli (R := Q3) ?_ fun b _ h => h⟩
    · exact o0'.gen hk fun b hb hl => ⟨fun h => hb (by subst h; exact ⟨by omega, fun h => by have := r0 _ h; omega⟩), fun h => hb (by subst h; exact ⟨by omega, fun h => by have := r0 _ h; omega⟩)⟩
    · exact u2.gen hk fun b hb hl => ⟨fun h => hb (by subst h; exact ⟨by omega, fun h => by have := r3 _ h; omega⟩), fun h => hb (by subst h; exact ⟨by omega, fun h => by have := r3 _ h; omega⟩)⟩
  have rest : ∀ {α : Type} [Rp α] {xs : List α} {w : Value} (Hx : Heap), H6.n ≤ Hx.n → Keep (fun b => b ≠ H.n ∧ b ≠ H1.n) H6 Hx → Sli (fun b => H2.n ≤ b ∧ b < H3.n ∧ blkOf w0 ≠ some b ∧ blkOf w3 ≠ some b) H3 xs w → Sli (all Hx) Hx xs w := by
    intro α _ xs w Hx hn hk hs
    refine (hs.keep ((k36.mono fun b hb => ⟨hb.2.1, by omega, hb.2.2⟩).trans (hk.mono fun b hb => by constructor <;> omega))).mono fun b hb => ?_
    show b < Hx.n
    omega
  cases fl with
  | true =>
    have hend := bare_end u1 hx4' rfl rfl h1
    let H7 := H6.upd H1.n (some ⟨[w0, w1, w2, w3, w4], 1, true⟩)
    have k7 : Keep (fun b => b ≠ H.n ∧ b ≠ H1.n) H6 H7 := Keep.upd fun h => h.2 rfl
    refine ⟨[w0, w1, w2, w3, w4], H7, ?_, rep_gr_mk (sl H7 k7).1 (rest H7 (Nat.le_refl _) k7 s1) (rest H7 (Nat.le_refl _) k7 s2) (sl H7 k7).2 (rest H7 (Nat.le_refl _) k7 s4), hkeep H7 (Nat.le_refl _) k7⟩
    refine Ev.enter (fun n => f26_eq rfl n _ _ _) ?_
    simp only [f26, real_b, real_i, real_c, chk_t, bnd_some, bnd_up, iff_t, iff_f, gd_t, gd_f, wd_b, wd_u, pick_t, pick_f, b_lss, b_leq, b_gtr, b_geq, b_eql, b_neq, b_seql, b_sneq, b_add, b_sub, u_not, nilC_ptr, fAddr_ptr, Nat.zero_add, extr0, extr1, extr2, lenStr, decide_true, decide_false, bt_tt, bt_tf, bt_ft, bt_ff, bt_bne, Bool.not_true, Bool.not_false, Int.reduceBEq, Int.reduceBNe, hnew, show newV [.slice none 0 0, .slice none 0 0, .slice none 0 0, .slice none 0 0, .slice none 0 0] H1 = _ from e2, g2.dA]
    refine Ev.callC q ?_
    simp only [real_b, real_i, real_c, chk_t, bnd_some, bnd_up, iff_t, iff_f, gd_t, gd_f, wd_b, wd_u, pick_t, pick_f, b_lss, b_leq, b_gtr, b_geq, b_eql, b_neq, b_seql, b_sneq, b_add, b_sub, u_not, nilC_ptr, fAddr_ptr, Nat.zero_add, extr0, extr1, extr2, lenStr, decide_true, decide_false, bt_tt, bt_tf, bt_ft, bt_ff, bt_bne, Bool.not_true, Bool.not_false, Int.reduceBEq, Int.reduceBNe, st]
    exact (t5 _ (u5 _ (fun _ => hend) fun h => by cases h).loop).loop
  | false =>
    have h1' : [w0, w1, nilS, w3, w4].all oneC = true := by
      simp only [List.all_cons, List.all_nil, Bool.and_true, Bool.and_eq_true] at h1 ⊢
      exact ⟨h1.1, h1.2.1, rfl, h1.2.2.2⟩
    let H6' := H6.upd H.n (some ⟨[w0, w1, nilS, w3, w4], 1, true⟩)
    have hx4'' : H6'.get H1.n = some ⟨[nilS, nilS, nilS, nilS, nilS], 1, true⟩ := (upd_ne (by omega)).trans hx4'
    have hend := bare_end (H := H6') (gb := H.n) upd_self hx4'' rfl rfl h1'
    let H7 := H6'.upd H1.n (some ⟨[w0, w1, nilS, w3, w4], 1, true⟩)
    have k7 : Keep (fun b => b ≠ H.n ∧ b ≠ H1.n) H6 H7 := (Keep.upd (R := fun b => b ≠ H.n ∧ b ≠ H1.n) fun h => h.1 rfl).trans (Keep.upd fun h => h.2 rfl)
    refine ⟨[w0, w1, nilS, w3, w4], H7, ?_, rep_gr_mk (sl H7 k7).1 (rest H7 (Nat.le_refl _) k7 s1) ⟨[], Sl.nil, .nil⟩ (sl H7 k7).2 (rest H7 (Nat.le_refl _) k7 s4), hkeep H7 (Nat.le_refl _) k7⟩
    refine Ev.enter (fun n => f26_eq rfl n _ _ _) ?_
    simp only [f26, real_b, real_i, real_c, chk_t, bnd_some, bnd_up, iff_t, iff_f, gd_t, gd_f, wd_b, wd_u, pick_t, pick_f, b_lss, b_leq, b_gtr, b_geq, b_eql, b_neq, b_seql, b_sneq, b_add, b_sub, u_not, nilC_ptr, fAddr_ptr, Nat.zero_add, extr0, extr1, extr2, lenStr, decide_true, decide_false, bt_tt, bt_tf, bt_ft, bt_ff, bt_bne, Bool.not_true, Bool.not_false, Int.reduceBEq, Int.reduceBNe, hnew, show newV [.slice none 0 0, .slice none 0 0, .slice none 0 0, .slice none 0 0, .slice none 0 0] H1 = _ from e2, g2.dA]
    refine Ev.callC q ?_
    simp only [real_b, real_i, real_c, chk_t, bnd_some, bnd_up, iff_t, iff_f, gd_t, gd_f, wd_b, wd_u, pick_t, pick_f, b_lss, b_leq, b_gtr, b_geq, b_eql, b_neq, b_seql, b_sneq, b_add, b_sub, u_not, nilC_ptr, fAddr_ptr, Nat.zero_add, extr0, extr1, extr2, lenStr, decide_true, decide_false, bt_tt, bt_tf, bt_ft, bt_ff, bt_bne, Bool.not_true, Bool.not_false, Int.reduceBEq, Int.reduceBNe, st]
    exact (t5 _ (u5 _ (fun h => by cases h) fun _ => hend).loop).loop
end Go.Eng
