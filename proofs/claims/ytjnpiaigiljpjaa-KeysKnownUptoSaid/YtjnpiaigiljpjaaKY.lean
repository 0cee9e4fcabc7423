/- KeysKinds. -/
import Derived.Test.YtjnpiaigiljpjaaKV
set_option linter.unusedVariables false
set_option linter.unusedSimpArgs false
namespace Go.Eng
open Go Go.Proofs

/-! ### keys that may be -/
inductive VK : List Nat → Prop where
  | file {d : List Nat} (h : ∀ x ∈ d, x < 256) (l : d.length ≤ 100000000000) : VK (fkey d)
  | scan {xs : List ByteArray} (l : vol xs ≤ 100000000000) : VK (skey xs)
  | parser {g : Gr} (h : gE g = 0) : VK (pkey g)
  | tables {g : Gr} (h : tE g = 0) (v : ptvol g.pats ≤ 10000000000) : VK (tkey g)
theorem nb1 : nb 1 = [1] := by simp [nb, okN, vnum]
theorem nb2 : nb 2 = [2] := by simp [nb, okN, vnum]
theorem nb3 : nb 3 = [3] := by simp [nb, okN, vnum]
theorem nb4 : nb 4 = [4] := by simp [nb, okN, vnum]
theorem VK.byte {k : List Nat} (h : VK k) : ∀ x ∈ k, x < 256 := by
  cases h with
  | file h l => exact fkey_byte h
  | scan l => exact skey_byte
  | parser h => exact pkey_byte _
  | tables h v => exact tkey_byte _
theorem kind_at (x : Nat) (l : List Nat) (h : x ≤ 4) : kindOfKey (x :: l) = x := by simp only [kindOfKey]; rw [if_neg (by omega)]
theorem VK.pos {k : List Nat} (h : VK k) : 1 ≤ kindOfKey k := by
  cases h with
  | file h l => simp only [fkey, nb1, List.cons_append, kind_at _ _ (show 1 ≤ 4 by decide)]; decide
  | scan l => simp only [skey, nb2, List.cons_append, kind_at _ _ (show 2 ≤ 4 by decide)]; decide
  | parser h => simp only [pkey, nb3, List.cons_append, kind_at _ _ (show 3 ≤ 4 by decide)]; decide
  | tables h v => simp only [tkey, nb4, List.cons_append, kind_at _ _ (show 4 ≤ 4 by decide)]; decide
/-- No key is the beginning of another one. -/
theorem VK.pref {k m r : List Nat} (h : VK k) (h' : VK m) (e : k ++ r = m) : r = [] := by
  cases h with
  | @file d hd l =>
    cases h' with
    | @file d' hd' l' =>
      simp only [fkey, List.append_assoc] at e
      have e := List.append_cancel_left e
      have e2 : tb (strOf d) ++ r = tb (strOf d') ++ [] := by rw [List.append_nil]; exact e
      exact (tb_pref (by rw [strOf_size]; omega) (by rw [strOf_size]; omega) e2).2
    | scan _ => simp [fkey, skey, nb1, nb2] at e
    | parser _ => simp [fkey, pkey, nb1, nb3] at e
    | tables _ _ => simp [fkey, tkey, nb1, nb4] at e
  | @scan xs l =>
    cases h' with
    | file _ _ => simp [fkey, skey, nb1, nb2] at e
    | @scan ys l' =>
      have a1 := vol_len xs
      have a2 := vol_len ys
      simp only [skey, List.append_assoc] at e
      have e := List.append_cancel_left e
      obtain ⟨h1, h2⟩ := nb_pref (by omega) (by omega) e
      have h3 : tbs xs ++ r = tbs ys ++ [] := by rw [List.append_nil]; exact h2
      exact (tbs_pref h1 (fun s hs => by have := vol_mem hs; omega) (fun s hs => by have := vol_mem hs; omega) h3).2
    | parser _ => simp [skey, pkey, nb2, nb3] at e
    | tables _ _ => simp [skey, tkey, nb2, nb4] at e
  | parser h0 =>
    cases h' with
    | file _ _ => simp [fkey, pkey, nb1, nb3] at e
    | scan _ => simp [skey, pkey, nb2, nb3] at e
    | parser h1 =>
      simp only [pkey, List.append_assoc] at e
      have e := List.append_cancel_left e
      exact (part_pref (s := []) h0 h1 (by rw [List.append_nil]; exact e)).2.2.2.2
    | tables _ _ => simp [pkey, tkey, nb3, nb4] at e
  | @tables g h0 v0 =>
    cases h' with
    | file _ _ => simp [fkey, tkey, nb1, nb4] at e
    | scan _ => simp [skey, tkey, nb2, nb4] at e
    | parser _ => simp [pkey, tkey, nb3, nb4] at e
    | @tables g' h1 v1 =>
      obtain ⟨ga, oa⟩ := tE_zero h0
      obtain ⟨gb, ob⟩ := tE_zero h1
      have a1 := ptvol_len g.pats
      have a2 := ptvol_len g'.pats
      simp only [tkey, List.append_assoc] at e
      have e := List.append_cancel_left e
      obtain ⟨e1, e2⟩ := nb_pref (by omega) (by omega) e
      obtain ⟨e3, e4⟩ := pts_pref e1 oa ob v0 v1 e2
      exact (part_pref (s := []) ga gb (by rw [List.append_nil]; exact e4)).2.2.2.2

/-! ### begins -/
theorem Sl.take {R : Nat → Prop} {H : Heap} {n m : Nat} {v : Value} {cs : List Value} (h : Sl R H 1 v n cs) (hm : m ≤ n) : ∃ v', slcS 1 v none (some (.int .i64 (m : Int))) none = some v' ∧ Sl R H 1 v' m (cs.take m) := by
  rcases h with ⟨rfl, rfl, rfl⟩ | ⟨b, o, sp, cap, rfl, h2, rfl, rfl⟩ | ⟨b, o, sp, cap, blk, rfl, h2, h3, h4, h5, rfl⟩
  · obtain rfl : m = 0 := by omega
    exact ⟨.slice none 0 0, rfl, .inl ⟨rfl, rfl, rfl⟩⟩
  · obtain rfl : m = 0 := by omega
    exact ⟨.slice (some ⟨b, o, sp⟩) 0 cap, by simp [slcS, bound], .inr (.inl ⟨b, o, sp, cap, rfl, h2, rfl, rfl⟩)⟩
  · refine ⟨.slice (some ⟨b, o, sp⟩) m cap, ?_, .inr (.inr ⟨b, o, sp, cap, blk, rfl, h2, h3, by omega, by omega, ?_⟩)⟩
    · simp only [slcS, bound]
      rw [if_pos (by omega)]
      simp only [Int.toNat_natCast, Option.isNone_none, Bool.true_or, Nat.zero_le, true_and, and_true]
      rw [if_pos (by omega)]
      simp
    · simp only [cut, Nat.mul_one, List.take_take]
      rw [Nat.min_eq_left hm]
def beginsB (a b : List Nat) : Bool := decide (a.length < b.length) && decide (a = b.take a.length)
theorem begins_ok {R : Nat → Prop} {H : Heap} {v1 v2 : Value} {a b : List Nat} {n1 n2 : Nat} (h1 : Sl R H 1 v1 n1 (B a)) (h2 : Sl R H 1 v2 n2 (B b)) (hb : a.length < 9223372036854775807) : Cl 27 [v1, v2] H (.bool (beginsB a b)) H := by
  have e1 := h1.blen
  have e2 := h2.blen
  subst e1; subst e2
  refine Ev.enter (fun n => f27_eq rfl n _ _ _) ?_
  by_cases hl : a.length < b.length
  · obtain ⟨v', s1, s2⟩ := h2.take (m := a.length) (by omega)
    have hB : (B b).take a.length = B (b.take a.length) := by simp [B, List.map_take]
    rw [hB] at s2
    simp only [f27, real_b, real_i, real_c, chk_t, bnd_some, bnd_up, iff_t, iff_f, gd_t, gd_f, wd_b, wd_u, pick_t, pick_f, b_lss, b_leq, b_gtr, b_geq, b_eql, b_neq, b_seql, b_sneq, b_add, b_sub, u_not, nilC_ptr, fAddr_ptr, Nat.zero_add, extr0, extr1, extr2, lenStr, decide_true, decide_false, bt_tt, bt_tf, bt_ft, bt_ff, bt_bne, Bool.not_true, Bool.not_false, Int.reduceBEq, Int.reduceBNe, h1.lenS, h2.lenS, idx_lt hl, Option.map_some, Option.map_none, s1]
    refine Ev.callC (eq_ok h1 s2 hb) ?_
    simp only [real_b, real_i, real_c, chk_t, bnd_some, bnd_up, iff_t, iff_f, gd_t, gd_f, wd_b, wd_u, pick_t, pick_f, b_lss, b_leq, b_gtr, b_geq, b_eql, b_neq, b_seql, b_sneq, b_add, b_sub, u_not, nilC_ptr, fAddr_ptr, Nat.zero_add, extr0, extr1, extr2, lenStr, decide_true, decide_false, bt_tt, bt_tf, bt_ft, bt_ff, bt_bne, Bool.not_true, Bool.not_false, Int.reduceBEq, Int.reduceBNe, beginsB, hl, Bool.true_and]
    exact Ev.pure _
  · simp only [f27, real_b, real_i, real_c, chk_t, bnd_some, bnd_up, iff_t, iff_f, gd_t, gd_f, wd_b, wd_u, pick_t, pick_f, b_lss, b_leq, b_gtr, b_geq, b_eql, b_neq, b_seql, b_sneq, b_add, b_sub, u_not, nilC_ptr, fAddr_ptr, Nat.zero_add, extr0, extr1, extr2, lenStr, decide_true, decide_false, bt_tt, bt_tf, bt_ft, bt_ff, bt_bne, Bool.not_true, Bool.not_false, Int.reduceBEq, Int.reduceBNe, h1.lenS, h2.lenS, idx_ge (show b.length ≤ a.length by omega), beginsB, hl, Bool.false_and]
    exact Ev.pure _
theorem VK.begins {k m : List Nat} (h : VK k) (h' : VK m) : beginsB k m = false := by
  unfold beginsB
  simp only [Bool.and_eq_false_iff, decide_eq_false_iff_not]
  by_cases hl : k.length < m.length
  · right
    intro e
    have := h.pref h' (r := m.drop k.length) (by conv => lhs; lhs; rw [e]
                                                 exact List.take_append_drop _ _)
    have := congrArg List.length this
    simp at this; omega
  · left; exact hl

/-! ### the list of keys -/
def Kst (R : Nat → Prop) (H : Heap) (ks : List (List Nat)) (v : Value) : Prop :=
  ∃ ws : List Value, Acc R H 1 v ks.length ws ∧ ∀ (i : Nat) (k : List Nat), ks[i]? = some k → ∃ w, ws[i]? = some w ∧ Sl R H 1 w k.length (B k)
theorem Kst.nil {R : Nat → Prop} {H : Heap} : Kst R H [] nilS := ⟨[], Acc.nil, fun i k h => by simp at h⟩
theorem Kst.keep {R : Nat → Prop} {H H' : Heap} {ks : List (List Nat)} {v : Value} (h : Kst R H ks v) (hR : Rb R H) (k : Keep (all H) H H') : Kst R H' ks v := by
  obtain ⟨ws, h1, h2⟩ := h
  exact ⟨ws, h1.keep k, fun i x hx => by obtain ⟨w, a, b⟩ := h2 i x hx; exact ⟨w, a, b.keep (k.of_all hR)⟩⟩
theorem Kst.more {R R' : Nat → Prop} {H : Heap} {ks : List (List Nat)} {v : Value} (h : Kst R H ks v) (h1 : ∀ b, R b → R' b) (h2 : ∀ b, R' b → b < H.n → R b) : Kst R' H ks v := by
  obtain ⟨ws, g1, g2⟩ := h
  exact ⟨ws, g1.more h2, fun i x hx => by obtain ⟨w, a, b⟩ := g2 i x hx; exact ⟨w, a, b.mono h1⟩⟩
theorem Kst.plus {R : Nat → Prop} {H H' : Heap} {ks : List (List Nat)} {v : Value} (h : Kst R H ks v) (hR : Rb R H) (k : Keep (all H) H H') : Kst (plus R H H') H' ks v := by
  obtain ⟨ws, g1, g2⟩ := h
  exact ⟨ws, (g1.more (R' := Eng.plus R H H') fun b hb hlt => by rcases hb with hb | hb <;> first | exact hb | omega).keep k, fun i x hx => by obtain ⟨w, a, b⟩ := g2 i x hx; exact ⟨w, a, (b.keep (k.of_all hR)).mono plus_le⟩⟩
theorem Kst.len {R : Nat → Prop} {H : Heap} {ks : List (List Nat)} {v : Value} (h : Kst R H ks v) : lenS v = some (.int .i64 ks.length) := by
  obtain ⟨ws, g1, g2⟩ := h
  exact g1.sl.lenS
theorem Kst.at {R : Nat → Prop} {H : Heap} {ks : List (List Nat)} {v : Value} (h : Kst R H ks v) {i : Nat} {k : List Nat} (hk : ks[i]? = some k) : ∃ p w, iAddrS 1 v (.int .i64 (i : Int)) = some p ∧ ldC p H = some (w, H) ∧ Sl R H 1 w k.length (B k) := by
  obtain ⟨ws, g1, g2⟩ := h
  obtain ⟨w, a, b⟩ := g2 i k hk
  obtain ⟨p, p1, p2⟩ := g1.at1 a
  exact ⟨p, w, p1, p2, b⟩
theorem litV {H : Heap} {w : Value} (h1 : oneC w = true) (hc : w.cells = #[w]) : bldS 1 1 [nilS] [(0, 1, w)] H = some (.slice (some ⟨H.n, 0, none⟩) 1 1, H.push ⟨[w], 1, true⟩) := bld1 h1 hc
/-- One key more. -/
theorem Kst.add {R : Nat → Prop} {H : Heap} {ks : List (List Nat)} {v w : Value} {k : List Nat} (h : Kst R H ks v) (hR : Rb R H) (hw : Sl R H 1 w k.length (B k)) (hn : ks.length < 1000) :
    ∃ v' H', app 1 24 v (.slice (some ⟨H.n, 0, none⟩) 1 1) (H.push ⟨[w], 1, true⟩) = some (v', H') ∧ Kst R H' (ks ++ [k]) v' ∧ Keep R H H' := by
  obtain ⟨ws, g1, g2⟩ := h
  obtain ⟨v', H', a1, a2, a3⟩ := (g1.push (blk := ⟨[w], 1, true⟩)).app (x := .slice (some ⟨H.n, 0, none⟩) 1 1) (k := 1) (xs := [w]) (by_ := 24) (hR.mono (by simp [Heap.push])) (addend_push rfl) rfl (by unfold mostBytes; omega)
  have kk : Keep R H H' := (Keep.push hR).trans a3
  have hl : ws.length = ks.length := by have := g1.len; omega
  refine ⟨v', H', a1, ⟨ws ++ [w], by simpa using a2, fun i x hx => ?_⟩, kk⟩
  rcases Nat.lt_or_ge i ks.length with hi | hi
  · rw [List.getElem?_append_left hi] at hx
    obtain ⟨w', b1, b2⟩ := g2 i x hx
    exact ⟨w', by rw [List.getElem?_append_left (by omega)]; exact b1, b2.keep kk⟩
  · rw [List.getElem?_append_right hi] at hx
    have h0 : i - ks.length = 0 := by
      rcases Nat.eq_zero_or_pos (i - ks.length) with h | h
      · exact h
      · rw [List.getElem?_eq_none (by simp; omega)] at hx; cases hx
    rw [h0] at hx
    simp only [List.getElem?_cons_zero, Option.some.injEq] at hx
    subst hx
    exact ⟨w, by rw [List.getElem?_append_right (by omega), show i - ws.length = 0 by omega]; rfl, hw.keep kk⟩
end Go.Eng
