/- A grammar, copied. -/
import Derived.Test.YtjnpiaigiljpjaaKS
set_option linter.unusedVariables false
set_option linter.unusedSimpArgs false
namespace Go.Eng
open Go Go.Proofs

theorem stV1_box {H : Heap} {b k s : Nat} {cs : List Value} {w : Value} (h : H.get b = some ⟨cs, s, true⟩) (hk : k < cs.length) (hc : w.cells = #[w]) (h1 : oneC w = true) : stV 1 (ptr b k) w H = some (undef, H.upd b (some ⟨cs.set k w, s, true⟩)) := by
  have e : splice cs k [w] = cs.set k w := by
    simp only [splice]
    rw [List.set_eq_take_append_cons_drop, if_pos hk]
    simp
  have h1' : Value.oneCell' w = true := h1
  simp only [stV, h, hc, e]
  rw [if_pos]
  exact ⟨rfl, by simp [h1'], by omega, trivial⟩
theorem Acc.gen {R Q : Nat → Prop} {H H' : Heap} {sz n : Nat} {v : Value} {cs : List Value} (h : Acc R H sz v n cs) (hk : Keep Q H H') (hq : ∀ b, ¬ R b → b < H.n → Q b) : Acc R H' sz v n cs := by
  rcases h with h | ⟨b, h1, h2, h3, h4, h5⟩
  · exact .inl h
  · exact .inr ⟨b, h1, h2, Nat.lt_of_lt_of_le h3 hk.1, by rw [hk.2 b (hq b h2 h3)]; exact h4, h5⟩
theorem Acc.read {R R' : Nat → Prop} {H : Heap} {sz n : Nat} {v : Value} {cs : List Value} (h : Acc R H sz v n cs) (hR : ∀ b, ¬ R b → b < H.n → R' b) : Sl R' H sz v n cs := by
  rcases h with h | ⟨b, h1, h2, h3, h4, h5⟩
  · exact .inl h
  · refine .inr (.inr ⟨b, 0, none, n, _, h1, hR b h2 h3, h4, by simp only; omega, Nat.le_refl _, ?_⟩)
    simp only [cut, List.drop_zero]
    rw [← h5, List.take_length]
theorem Acc.at {R : Nat → Prop} {H : Heap} {sz n b : Nat} {v : Value} {cs : List Value} (h : Acc R H sz v n cs) (hb : blkOf v = some b) : ¬ R b ∧ b < H.n := by
  rcases h with ⟨rfl, _⟩ | ⟨c, rfl, h2, h3, h4, h5⟩
  · cases hb
  · simp [blkOf] at hb; subst hb; exact ⟨h2, h3⟩
theorem Acc.oneC {R : Nat → Prop} {H : Heap} {sz n : Nat} {v : Value} {cs : List Value} (h : Acc R H sz v n cs) : Eng.oneC v = true ∧ v.cells = #[v] := by
  rcases h with ⟨rfl, _⟩ | ⟨c, rfl, _⟩ <;> exact ⟨rfl, rfl⟩
theorem Acc.weak {R R' : Nat → Prop} {H : Heap} {sz n : Nat} {v : Value} {cs : List Value} (h : Acc R H sz v n cs) (hR : ∀ b, blkOf v = some b → ¬ R' b) : Acc R' H sz v n cs := by
  rcases h with h | ⟨c, rfl, h2, h3, h4, h5⟩
  · exact .inl h
  · exact .inr ⟨c, rfl, hR c rfl, h3, h4, h5⟩
theorem Acc.read' {R : Nat → Prop} {H : Heap} {sz n : Nat} {v : Value} {cs : List Value} (h : Acc R H sz v n cs) : Sl (fun b => blkOf v = some b) H sz v n cs := by
  rcases h with h | ⟨b, h1, h2, h3, h4, h5⟩
  · exact .inl h
  · refine .inr (.inr ⟨b, 0, none, n, _, h1, by rw [h1]; rfl, h4, by simp only; omega, Nat.le_refl _, ?_⟩)
    simp only [cut, List.drop_zero]
    rw [← h5, List.take_length]
theorem ints_any {R R' : Nat → Prop} {H H' : Heap} {xs : List Int} {cs : List Value} (h : RpL R H xs cs) : RpL R' H' xs cs := by
  induction h with
  | nil => exact .nil
  | cons h t ih => exact .cons h ih
theorem any_str {R R' : Nat → Prop} {H H' : Heap} {xs : List ByteArray} {cs : List Value} (h : RpL R H xs cs) : RpL R' H' xs cs := by
  induction h with
  | nil => exact .nil
  | cons h t ih => exact .cons h ih
theorem any_lv {R R' : Nat → Prop} {H H' : Heap} {xs : List Lv} {cs : List Value} (h : RpL R H xs cs) : RpL R' H' xs cs := by
  induction h with
  | nil => exact .nil
  | cons h t ih =>
    obtain ⟨rfl, a, b⟩ := rep_lv h
    exact .cons (rep_lv_mk a b) ih
theorem any_pt {R R' : Nat → Prop} {H H' : Heap} {xs : List Pt} {cs : List Value} (h : RpL R H xs cs) : RpL R' H' xs cs := by
  induction h with
  | nil => exact .nil
  | cons h t ih =>
    obtain ⟨rfl, a⟩ := rep_pt h
    exact .cons ⟨_, _, rfl, ⟨rfl, a⟩, _, _, rfl, rfl, rfl⟩ ih
abbrev nilS : Value := .slice none 0 0

/-- One list is copied. -/
theorem copy_field {α : Type} [Rp α] {Q : Nat → Prop} {Hv H : Heap} {xs : List α} {v : Value} {b3 k by_ : Nat} {cs : List Value} (hV : Sli Q Hv xs v) (hk : Keep Q Hv H) (hQ : ∀ b, Q b → b < H.n ∧ b ≠ b3) (hO : H.get b3 = some ⟨cs, 1, true⟩) (hl : b3 < H.n) (hcs : k < cs.length) (hby : xs.length * by_ ≤ mostBytes) :
    ∃ w Ha Hb cells, app (Rp.sz α) by_ nilS v H = some (w, Ha) ∧ stV 1 (ptr b3 k) w Ha = some (undef, Hb) ∧ Hb.get b3 = some ⟨cs.set k w, 1, true⟩ ∧ Keep (fun b => b ≠ b3 ∧ b < H.n) H Hb ∧ Acc (all H) Hb (Rp.sz α) w xs.length cells ∧ RpL Q Hb xs cells ∧ Keep Q Hv Hb := by
  obtain ⟨cells, s1, s2⟩ := hV
  obtain ⟨w, Ha, a1, a2, a3⟩ := (Acc.nil (R := all H) (H := H) (sz := Rp.sz α)).app (by_ := by_) (Rb.all H) (s1.keep hk).addend s1.len (by rw [Nat.zero_add]; exact hby)
  rw [Nat.zero_add, List.nil_append] at a2
  have hO' : Ha.get b3 = some ⟨cs, 1, true⟩ := (a3.2 b3 hl).trans hO
  have k2 : Keep (fun b => b ≠ b3 ∧ b < H.n) H (Ha.upd b3 (some ⟨cs.set k w, 1, true⟩)) := (a3.mono fun b hb => hb.2).trans (Keep.upd fun h => h.1 rfl)
  have k3 : Keep Q Hv (Ha.upd b3 (some ⟨cs.set k w, 1, true⟩)) := hk.trans (k2.mono fun b hb => ⟨(hQ b hb).2, (hQ b hb).1⟩)
  refine ⟨w, Ha, Ha.upd b3 (some ⟨cs.set k w, 1, true⟩), cells, a1, stV1_box hO' hcs a2.oneC.2 a2.oneC.1, upd_self, k2, ?_, s2.keep k3, k3⟩
  exact a2.gen (Q := fun b => b ≠ b3) (Keep.upd fun h => h rfl) fun b hb _ he => hb (he ▸ hl)

theorem lit4 {H : Heap} {cs zs : List Value} (hl : cs.length = 4) (hz : zs.length = 4) (h : cs.all oneC = true) : bldS 4 1 zs [(0, 4, .agg cs.toArray)] H = some (.slice (some ⟨H.n, 0, none⟩) 1 1, H.push ⟨cs, 4, true⟩) := by
  have h' : cs.all Value.oneCell' = true := h
  have e : splice zs 0 cs = cs := by simp [splice, hl, hz]
  simp [bldS, rep, fillC, e, newS, Value.cells, hl, hz, h']
theorem bldPd {H : Heap} {a b c : Int} : bld [.int .i64 0, .slice none 0 0, .int .i64 0, .int .i64 0] [(0, 1, .int .i64 a), (2, 2, .agg [.int .i64 b, .int .i64 c].toArray)] H = some (.agg [.int .i64 a, nilS, .int .i64 b, .int .i64 c].toArray, H) := by
  simp [bld, fillC, splice, Value.cells, oneC, Value.oneCell']

theorem copyp_loop {g : Gr} {HL : Heap} {gb b2 b3 : Nat} {v0 v1 v2 v3 v4 w0 w1 w2 w3 : Value} (H1 : Heap) (hG : GB (all H1) H1 g gb v0 v1 v2 v3 v4) (h12 : H1.n ≤ b2) (h13 : H1.n ≤ b3) (h2L : b2 < HL.n) (h3L : b3 < HL.n) (h23 : b2 ≠ b3) (hone : [w0, w1, w2, w3].all oneC = true)
    (hn : g.prods.length < 1000000000000) (hr : ∀ x ∈ g.prods, x.R.length < 1000000000000) {z2 : List Value} (hz2 : z2.length = 5) :
    ∀ (k i : Nat), i + k = g.prods.length → ∀ (H : Heap) (Rn : Nat → Prop) (a4 : Value) (cells : List Value), (∀ b, Rn b → HL.n ≤ b ∧ b < H.n) → Keep (all H1) H1 H → Keep (fun b => b < HL.n ∧ b ≠ b3 ∧ b ≠ b2) HL H → H.get b3 = some ⟨[w0, w1, w2, w3, a4], 1, true⟩ → H.get b2 = some ⟨z2, 1, true⟩ →
      Acc (fun b => b < HL.n ∨ Rn b) H 4 a4 i cells → RpL Rn H (g.prods.take i) cells →
    ∃ w4 H', Ev (fun n m => f20_L0 real (AC n) n m (ptr gb 0) (ptr b2 0) (ptr b3 0) (.int .i64 (i : Int)) H) (.agg [w0, w1, w2, w3, w4].toArray, H') ∧ Keep (all H1) H1 H' ∧ Keep (fun b => b < HL.n ∧ b ≠ b3 ∧ b ≠ b2) HL H' ∧ ∃ (Rq : Nat → Prop) (cells' : List Value), (∀ b, Rq b → HL.n ≤ b ∧ b < H'.n) ∧ Acc (fun b => b < HL.n ∨ Rq b) H' 4 w4 g.prods.length cells' ∧ RpL Rq H' g.prods cells' := by
  have hmb : mostBytes = 140737488355328 := rfl
  intro k
  induction k with
  | zero =>
    intro i hi H Rn a4 cells hRn hk1 hkL hO3 hO2 hA hC
    have hi' : i = g.prods.length := by omega
    have hGH := hG.keep hk1
    have ha1 : [w0, w1, w2, w3, a4].all oneC = true := by
      simp only [List.all_cons, List.all_nil, Bool.and_true, Bool.and_eq_true] at hone ⊢
      exact ⟨hone.1, hone.2.1, hone.2.2.1, hone.2.2.2, hA.oneC.1⟩
    let H' := H.upd b2 (some ⟨[w0, w1, w2, w3, a4], 1, true⟩)
    have hst : stV 5 (ptr b2 0) (.agg [w0, w1, w2, w3, a4].toArray) H = some (undef, H') := by
      have h' : [w0, w1, w2, w3, a4].all Value.oneCell' = true := ha1
      have e : splice z2 0 [w0, w1, w2, w3, a4] = [w0, w1, w2, w3, a4] := by simp [splice, hz2]
      simp only [stV, hO2, Value.cells, e]
      rw [if_pos]
      exact ⟨rfl, h', by omega, trivial⟩
    have hk3 : Keep (fun b => b ≠ b2) H H' := Keep.upd fun h => h rfl
    have hb3 : Box (fun b => b = b3) H b3 [w0, w1, w2, w3, a4] := ⟨rfl, _, _, hO3⟩
    have hb2 : Box (fun b => b = b2) H' b2 [w0, w1, w2, w3, a4] := ⟨rfl, _, _, upd_self⟩
    refine ⟨a4, H', ?_, hk1.trans (hk3.mono fun b hb => by have : b < H1.n := hb; omega), hkL.trans (hk3.mono fun b hb => hb.2.2), ?_⟩
    · refine Ev.step (fun n m => f20_L0.eq_2 _ _ _ _ _ _ _ _ _) ?_
      simp only [real_b, real_i, real_c, chk_t, bnd_some, bnd_up, iff_t, iff_f, gd_t, gd_f, wd_b, wd_u, pick_t, pick_f, b_lss, b_leq, b_gtr, b_geq, b_eql, b_neq, b_seql, b_sneq, b_add, b_sub, u_not, nilC_ptr, fAddr_ptr, Nat.zero_add, extr0, extr1, extr2, lenStr, decide_true, decide_false, bt_tt, bt_tf, bt_ft, bt_ff, bt_bne, Bool.not_true, Bool.not_false, Int.reduceBEq, Int.reduceBNe, hGH.d4, hGH.s4.lenS, idx_ge (show g.prods.length ≤ i by omega), hb3.all (show 5 = [w0, w1, w2, w3, a4].length from rfl), hst, hb2.all (show 5 = [w0, w1, w2, w3, a4].length from rfl)]
      exact Ev.pure _
    · have hA' := hA.gen (Q := fun b => b ≠ b2) hk3 fun b hb hlt he => hb (.inl (he ▸ h2L))
      refine ⟨Rn, cells, fun b hb => hRn b hb, by rw [← hi']; exact hA', ?_⟩
      have : g.prods.take i = g.prods := List.take_of_length_le (by omega)
      rw [this] at hC
      refine hC.keep (H' := H') (hk3.mono fun b hb => ?_)
      have := (hRn b hb).1; omega
  | succ k ih =>
    intro i hi H Rn a4 cells hRn hk1 hkL hO3 hO2 hA hC
    have hlt : i < g.prods.length := by omega
    obtain ⟨x, hx, hd⟩ := drop_at hlt
    have hrx := hr x (mem_at hx)
    have hGH := hG.keep hk1
    obtain ⟨b, o, c, g1, g2, g3, g4, g5⟩ := hGH.s4.rec hx
    obtain ⟨w, rfl, hw, hr1, hr2, hr3⟩ := rep_pd g3
    have hH1 : H1.n ≤ HL.n := by omega
    -- the struct's box
    let Ha := (H.push ⟨[.int .i64 0, .slice none 0 0, .int .i64 0, .int .i64 0], 1, true⟩).upd H.n (some ⟨[.int .i64 x.L, nilS, .int .i64 x.V.N, .int .i64 x.V.K], 1, true⟩)
    have ka : Keep (all H) H Ha := push_upd (Rb.all H)
    have st : stV 4 (ptr H.n 0) (.agg [.int .i64 x.L, nilS, .int .i64 x.V.N, .int .i64 x.V.K].toArray) (H.push ⟨[.int .i64 0, .slice none 0 0, .int .i64 0, .int .i64 0], 1, true⟩) = some (undef, Ha) := push_st rfl rfl rfl
    have hga : Ha.get H.n = some ⟨[.int .i64 x.L, nilS, .int .i64 x.V.N, .int .i64 x.V.K], 1, true⟩ := upd_self
    have hna : Ha.n = H.n + 1 := rfl
    have bxa : Box (fun b => b = H.n) Ha H.n [.int .i64 x.L, nilS, .int .i64 x.V.N, .int .i64 x.V.K] := ⟨rfl, _, _, hga⟩
    have up1 : ∀ b, all H1 b → all H b := upA hk1
    have hk1a := hk1.trans (ka.mono up1)
    have hGa := hG.keep hk1a
    obtain ⟨b', o', c', g1', g2', g3', g4', g5'⟩ := hGa.s4.rec hx
    obtain ⟨w', rfl, hw', _, _, _⟩ := rep_pd g3'
    have hbo : ptr b' o' = ptr b o := Option.some.inj (g1'.symm.trans g1)
    have hww : w' = w := by
      have e1 : ldC (ptr b (o + 1)) Ha = some (w', Ha) := by
        injection hbo with h0; injection h0 with h0; injection h0 with h0 h00
        subst h0; subst h00
        exact g4' 1 _ rfl
      have e2 : ldC (ptr b (o + 1)) H = some (w, H) := g4 1 _ rfl
      have hbl : b < H.n := up1 b g2
      simp only [ldC, ka.2 b hbl] at e1 e2
      cases hb : H.get b with
      | none => rw [hb] at e2; cases e2
      | some blk =>
        rw [hb] at e1 e2
        simp only at e1 e2
        cases hc : blk.cells[o + 1]? with
        | none => rw [hc] at e2; cases e2
        | some z => rw [hc] at e1 e2; simp only [Option.some.injEq, Prod.mk.injEq] at e1 e2; rw [← e1.1, ← e2.1]
    subst hww
    have ldw : ldC (ptr b (o + 1)) Ha = some (w', Ha) := by
      injection hbo with h0; injection h0 with h0; injection h0 with h0 h00
      subst h0; subst h00
      exact g4' 1 _ rfl
    -- Right, copied, and laid into the box
    have hLH : HL.n ≤ H.n := hkL.1
    obtain ⟨u, Hb, Hc, rc, a1, a2, a3, a4', a5, a6, a7⟩ := copy_field (k := 1) (by_ := 8) hw' (Keep.refl _ Ha) (b3 := H.n) (fun b hb => by have h : b < H1.n := hb; constructor <;> omega) hga (by omega) (by simp) (by omega)
    have kc : Keep (all H) H Hc := ka.trans (a4'.mono fun b hb => ⟨by have h : b < H.n := hb; omega, by have h : b < H.n := hb; omega⟩)
    have hnc : H.n < Hc.n := by have := a4'.1; omega
    have hO3c : Hc.get b3 = some ⟨[w0, w1, w2, w3, a4], 1, true⟩ := (kc.2 b3 (by show b3 < H.n; omega)).trans hO3
    have hO2c : Hc.get b2 = some ⟨z2, 1, true⟩ := (kc.2 b2 (by show b2 < H.n; omega)).trans hO2
    have bx3 : Box (fun b => b = b3) Hc b3 [w0, w1, w2, w3, a4] := ⟨rfl, _, _, hO3c⟩
    have bxc : Box (fun b => b = H.n) Hc H.n [.int .i64 x.L, u, .int .i64 x.V.N, .int .i64 x.V.K] := ⟨rfl, _, _, a3⟩
    have hu1 : oneC u = true := a5.oneC.1
    have h41 : [Value.int .i64 x.L, u, .int .i64 x.V.N, .int .i64 x.V.K].all oneC = true := by simp only [List.all_cons, List.all_nil, hu1]; rfl
    -- the struct, appended
    let Hd := Hc.push ⟨[.int .i64 x.L, u, .int .i64 x.V.N, .int .i64 x.V.K], 4, true⟩
    have kd : Keep (all Hc) Hc Hd := push_keep
    let Rn' : Nat → Prop := fun b => Rn b ∨ blkOf u = some b
    have hublk : ∀ b, blkOf u = some b → H.n < b ∧ b < Hc.n := fun b hb => by
      have := a5.at hb
      refine ⟨?_, this.2⟩
      have h2 : ¬ b < Ha.n := this.1
      omega
    have hRn' : ∀ b, Rn' b → HL.n ≤ b ∧ b < Hc.n := fun b hb => by
      rcases hb with hb | hb
      · have := hRn b hb; omega
      · have := hublk b hb; omega
    have hA' : Acc (fun b => b < HL.n ∨ Rn' b) Hd 4 a4 i cells := by
      refine ((hA.gen (Q := all H) kc fun b _ h => h).weak fun b hb => ?_).gen (Q := all Hc) kd fun b _ h => h
      have h1 := hA.at hb
      rintro (h | h | h)
      · exact h1.1 (.inl h)
      · exact h1.1 (.inr h)
      · have := hublk b h; omega
    have rbd : Rb (fun b => b < HL.n ∨ Rn' b) Hd := fun b hb => by
      have hnd : Hd.n = Hc.n + 1 := rfl
      rcases hb with hb | hb
      · omega
      · have := hRn' b hb; omega
    obtain ⟨a4n, He, p1, p2, p3⟩ := hA'.app (by_ := 48) (x := .slice (some ⟨Hc.n, 0, none⟩) 1 1) (k := 1) (xs := [.int .i64 x.L, u, .int .i64 x.V.N, .int .i64 x.V.K]) rbd (addend_push rfl) rfl (by omega)
    have hO3e : He.get b3 = some ⟨[w0, w1, w2, w3, a4], 1, true⟩ := ((p3.2 b3 (.inl h3L)).trans (kd.2 b3 (by show b3 < Hc.n; omega))).trans hO3c
    have hO2e : He.get b2 = some ⟨z2, 1, true⟩ := ((p3.2 b2 (.inl h2L)).trans (kd.2 b2 (by show b2 < Hc.n; omega))).trans hO2c
    let Hf := He.upd b3 (some ⟨[w0, w1, w2, w3, a4n], 1, true⟩)
    have stf : stV 1 (ptr b3 4) a4n He = some (undef, Hf) := stV1_box (k := 4) hO3e (by simp) p2.oneC.2 p2.oneC.1
    have kf : Keep (fun b => b ≠ b3) He Hf := Keep.upd fun h => h rfl
    -- what has been kept
    have kHf : Keep (fun b => b < HL.n ∧ b ≠ b3) H Hf := (kc.mono fun b hb => by show b < H.n; omega).trans ((kd.mono fun b hb => by show b < Hc.n; omega).trans ((p3.mono fun b hb => .inl hb.1).trans (kf.mono fun b hb => hb.2)))
    have hnf : Hf.n = He.n := rfl
    have hne : Hc.n < He.n := by have : Hd.n ≤ He.n := p3.1; have : Hd.n = Hc.n + 1 := rfl; omega
    have kcf : Keep (fun b => Rn' b) Hc Hf := (kd.mono fun b hb => (hRn' b hb).2).trans ((p3.mono fun b hb => .inr hb).trans (kf.mono fun b hb => by have := (hRn' b hb).1; omega))
    have htake : g.prods.take (i + 1) = g.prods.take i ++ [x] := by rw [List.take_add_one, hx]; rfl
    obtain ⟨w4, H', q1, q2, q3, q4⟩ := ih (i + 1) (by omega) Hf Rn' a4n (cells ++ [.int .i64 x.L, u, .int .i64 x.V.N, .int .i64 x.V.K]) (fun b hb => by have := hRn' b hb; omega)
      (hk1.trans (kHf.mono fun b hb => by have h : b < H1.n := hb; constructor <;> omega)) (hkL.trans (kHf.mono fun b hb => ⟨hb.1, hb.2.1⟩)) upd_self ((upd_ne h23).trans hO2e)
      (p2.gen (Q := fun b => b ≠ b3) kf fun b hb _ he => hb (.inl (he ▸ h3L)))
      (by
        rw [htake]
        refine RpL.append ?_ (RpL.single ?_)
        · refine (hC.keep (H' := Hf) ?_).mono fun b hb => .inl hb
          have : Keep Rn H Hc := kc.mono fun b hb => (hRn b hb).2
          exact this.trans (kcf.mono fun b hb => .inl hb)
        · refine rep_pd_mk ?_ hr1 hr2 hr3
          refine ⟨rc, ?_, ?_⟩
          · have : Sl (fun b => blkOf u = some b) Hc 1 u x.R.length rc := a5.read' 
            exact (this.mono fun b hb => .inr hb).keep kcf
          · exact ints_any a6)
    refine ⟨w4, H', ?_, q2, q3, q4⟩
    have hbx1 : ldC (ptr H.n 1) Ha = some (nilS, Ha) := bxa.ld rfl
    refine Ev.step (fun n m => f20_L0.eq_2 _ _ _ _ _ _ _ _ _) ?_
    simp only [real_b, real_i, real_c, chk_t, bnd_some, bnd_up, iff_t, iff_f, gd_t, gd_f, wd_b, wd_u, pick_t, pick_f, b_lss, b_leq, b_gtr, b_geq, b_eql, b_neq, b_seql, b_sneq, b_add, b_sub, u_not, nilC_ptr, fAddr_ptr, Nat.zero_add, extr0, extr1, extr2, lenStr, decide_true, decide_false, bt_tt, bt_tf, bt_ft, bt_ff, bt_bne, Bool.not_true, Bool.not_false, Int.reduceBEq, Int.reduceBNe, hGH.d4, hGH.s4.lenS, idx_lt hlt, show iAddrS 4 v4 (.int .i64 i) = some (ptr b o) from g1, Nat.add_zero, show ldC (ptr b o) H = some (.int .i64 x.L, H) from g4 0 _ rfl, show ldA 2 (ptr b (o + 2)) H = _ from ldA_two (g4 2 _ rfl) (g4 3 _ rfl), bldPd,
      newV_box (show List.all [Value.int .i64 0, .slice none 0 0, .int .i64 0, .int .i64 0] oneC = true from rfl), st, hbx1, hGa.d4, ldw, show app 1 8 nilS w' Ha = _ from a1, show stV 1 (ptr H.n 1) u Hb = _ from a2, bx3.ld (k := 4) (v := a4) rfl, bxc.all (show 4 = [Value.int .i64 x.L, u, .int .i64 x.V.N, .int .i64 x.V.K].length from rfl)]
    rw [lit4 rfl rfl h41]
    simp only [real_b, real_i, real_c, chk_t, bnd_some, bnd_up, iff_t, iff_f, gd_t, gd_f, wd_b, wd_u, pick_t, pick_f, b_lss, b_leq, b_gtr, b_geq, b_eql, b_neq, b_seql, b_sneq, b_add, b_sub, u_not, nilC_ptr, fAddr_ptr, Nat.zero_add, extr0, extr1, extr2, lenStr, decide_true, decide_false, bt_tt, bt_tf, bt_ft, bt_ff, bt_bne, Bool.not_true, Bool.not_false, Int.reduceBEq, Int.reduceBNe, show app 4 48 a4 (.slice (some ⟨Hc.n, 0, none⟩) 1 1) (Hc.push ⟨[.int .i64 x.L, u, .int .i64 x.V.N, .int .i64 x.V.K], 4, true⟩) = _ from p1, stf, idx_up (show i < 9223372036854775807 by omega)]
    exact q1

/-- A grammar that is one's own: each list may be written. -/
structure OG (R : Nat → Prop) (H : Heap) (g : Gr) (w0 w1 w2 w3 w4 : Value) (c0 c1 c2 c3 c4 : List Value) (Rq : Nat → Prop) : Prop where
  a0 : Acc R H 1 w0 g.terms.length c0
  a1 : Acc R H 2 w1 g.levels.length c1
  a2 : Acc R H 2 w2 g.pats.length c2
  a3 : Acc R H 1 w3 g.nons.length c3
  a4 : Acc (fun b => R b ∨ Rq b) H 4 w4 g.prods.length c4
  r0 : RpL R H g.terms c0
  r1 : RpL R H g.levels c1
  r2 : RpL R H g.pats c2
  r3 : RpL R H g.nons c3
  r4 : RpL Rq H g.prods c4
  rq : ∀ b, Rq b → ¬ R b ∧ b < H.n
  ne0 : ∀ b, blkOf w0 = some b → blkOf w1 ≠ some b ∧ blkOf w2 ≠ some b ∧ blkOf w3 ≠ some b ∧ blkOf w4 ≠ some b ∧ ¬ Rq b
  ne1 : ∀ b, blkOf w1 = some b → blkOf w2 ≠ some b ∧ blkOf w3 ≠ some b ∧ blkOf w4 ≠ some b ∧ ¬ Rq b
  ne2 : ∀ b, blkOf w2 = some b → blkOf w3 ≠ some b ∧ blkOf w4 ≠ some b ∧ ¬ Rq b
  ne3 : ∀ b, blkOf w3 = some b → blkOf w4 ≠ some b ∧ ¬ Rq b
theorem copy_own {H : Heap} {g : Gr} {cs : List Value} (hg : Rp.rep (all H) H g cs) (sg : Small g) :
    ∃ w0 w1 w2 w3 w4 H' c0 c1 c2 c3 c4 Rq, Cl 20 [.agg cs.toArray] H (.agg [w0, w1, w2, w3, w4].toArray) H' ∧ Keep (all H) H H' ∧ OG (all H) H' g w0 w1 w2 w3 w4 c0 c1 c2 c3 c4 Rq := by
  have hmb : mostBytes = 140737488355328 := rfl
  obtain ⟨v0, v1, v2, v3, v4, rfl, hnew, gb, k1⟩ := GB.enter (Rb.all H) hg
  generalize hH1 : H.push ⟨[v0, v1, v2, v3, v4], 1, true⟩ = H1 at hnew gb k1
  have hn1 : H1.n = H.n + 1 := by rw [← hH1]; rfl
  have g1 := gb.allOf k1
  let H2 := H1.push ⟨[nilS, nilS, nilS, nilS, nilS], 1, true⟩
  let H3 := H2.push ⟨[nilS, nilS, nilS, nilS, nilS], 1, true⟩
  have hn2 : H2.n = H1.n + 1 := rfl
  have hn3 : H3.n = H1.n + 2 := rfl
  have k2 : Keep (all H1) H1 H2 := push_keep
  have k3 : Keep (all H2) H2 H3 := push_keep
  have kk3 : Keep (all H1) H1 H3 := k2.trans (k3.mono (upA k2))
  have hnil : [nilS, nilS, nilS, nilS, nilS].all oneC = true := rfl
  have e2 : newV [nilS, nilS, nilS, nilS, nilS] H1 = some (ptr H1.n 0, H2) := newV_box hnil
  have e3 : newV [nilS, nilS, nilS, nilS, nilS] H2 = some (ptr H2.n 0, H3) := newV_box hnil
  have hq : ∀ (X : Heap), H3.n ≤ X.n → ∀ b, all H1 b → b < X.n ∧ b ≠ H2.n := fun X hX b hb => by have h : b < H1.n := hb; constructor <;> omega
  -- four lists
  obtain ⟨w0, A0, B0, c0, a01, a02, a03, a04, a05, a06, a07⟩ := copy_field (k := 0) (by_ := 16) g1.s0 kk3 (b3 := H2.n) (hq H3 (Nat.le_refl _)) (show H3.get H2.n = some ⟨[nilS, nilS, nilS, nilS, nilS], 1, true⟩ from push_self) (by omega) (by simp) (by have := sg.t; omega)
  have n0 := a04.1
  obtain ⟨w1, A1, B1, c1, a11, a12, a13, a14, a15, a16, a17⟩ := copy_field (k := 1) (by_ := 16) g1.s1 a07 (b3 := H2.n) (hq B0 n0) a03 (by omega) (by simp) (by have := sg.l; omega)
  have n1 := a14.1
  obtain ⟨w2, A2, B2, c2, a21, a22, a23, a24, a25, a26, a27⟩ := copy_field (k := 2) (by_ := 24) g1.s2 a17 (b3 := H2.n) (hq B1 (by omega)) a13 (by omega) (by simp) (by have := sg.p; omega)
  have n2 := a24.1
  obtain ⟨w3, A3, B3, c3, a31, a32, a33, a34, a35, a36, a37⟩ := copy_field (k := 3) (by_ := 16) g1.s3 a27 (b3 := H2.n) (hq B2 (by omega)) a23 (by omega) (by simp) (by have := sg.n; omega)
  have n3 := a34.1
  simp only [List.set_cons_zero, List.set_cons_succ] at a03 a13 a23 a33
  -- the productions
  have hO2 : B3.get H1.n = some ⟨[nilS, nilS, nilS, nilS, nilS], 1, true⟩ := by
    have s0 : H3.get H1.n = some ⟨[nilS, nilS, nilS, nilS, nilS], 1, true⟩ := (push_lt (by omega)).trans push_self
    rw [a34.2 H1.n (by constructor <;> omega), a24.2 H1.n (by constructor <;> omega), a14.2 H1.n (by constructor <;> omega), a04.2 H1.n (by constructor <;> omega)]
    exact s0
  have hone : [w0, w1, w2, w3].all oneC = true := by
    simp only [List.all_cons, List.all_nil, Bool.and_true, Bool.and_eq_true]
    exact ⟨a05.oneC.1, a15.oneC.1, a25.oneC.1, a35.oneC.1⟩
  obtain ⟨w4, H', q1, q2, q3, Rq, c4, q4r, q4a, q4c⟩ := copyp_loop (g := g) (HL := B3) (b2 := H1.n) (b3 := H2.n) H1 g1 (Nat.le_refl _) (by omega) (by omega) (by omega) (by omega) hone sg.d sg.r (z2 := [nilS, nilS, nilS, nilS, nilS]) rfl g.prods.length 0 (by omega) B3 (fun _ => False) nilS [] (fun _ h => h.elim) a37 (Keep.refl _ _) a33 hO2 Acc.nil (by simpa using RpL.nil)
  have n4 := q3.1
  -- each in its place
  have z0 : Acc (all H3) H' 1 w0 g.terms.length c0 := (((a05.gen (Q := fun b => b ≠ H2.n ∧ b < B0.n) a14 fun b hb hl => ⟨fun he => hb (by show b < H3.n; omega), hl⟩).gen (Q := fun b => b ≠ H2.n ∧ b < B1.n) a24 fun b hb hl => ⟨fun he => hb (by show b < H3.n; omega), hl⟩).gen (Q := fun b => b ≠ H2.n ∧ b < B2.n) a34 fun b hb hl => ⟨fun he => hb (by show b < H3.n; omega), hl⟩).gen q3 fun b hb hl => ⟨hl, fun he => hb (by show b < H3.n; omega), fun he => hb (by show b < H3.n; omega)⟩
  have z3 : Acc (all B2) H' 1 w3 g.nons.length c3 := a35.gen q3 fun b hb hl => ⟨hl, fun he => hb (by show b < B2.n; omega), fun he => hb (by show b < B2.n; omega)⟩
  have z1 : Acc (all B0) H' 2 w1 g.levels.length c1 := ((a15.gen (Q := fun b => b ≠ H2.n ∧ b < B1.n) a24 fun b hb hl => ⟨fun he => hb (by show b < B0.n; omega), hl⟩).gen (Q := fun b => b ≠ H2.n ∧ b < B2.n) a34 fun b hb hl => ⟨fun he => hb (by show b < B0.n; omega), hl⟩).gen q3 fun b hb hl => ⟨hl, fun he => hb (by show b < B0.n; omega), fun he => hb (by show b < B0.n; omega)⟩
  have z2 : Acc (all B1) H' 2 w2 g.pats.length c2 := (a25.gen (Q := fun b => b ≠ H2.n ∧ b < B2.n) a34 fun b hb hl => ⟨fun he => hb (by show b < B1.n; omega), hl⟩).gen q3 fun b hb hl => ⟨hl, fun he => hb (by show b < B1.n; omega), fun he => hb (by show b < B1.n; omega)⟩
  have r0 : ∀ b, blkOf w0 = some b → H3.n ≤ b ∧ b < B0.n := fun b hb => ⟨Nat.le_of_not_lt (a05.at hb).1, (a05.at hb).2⟩
  have r1 : ∀ b, blkOf w1 = some b → B0.n ≤ b ∧ b < B1.n := fun b hb => ⟨Nat.le_of_not_lt (a15.at hb).1, (a15.at hb).2⟩
  have r2 : ∀ b, blkOf w2 = some b → B1.n ≤ b ∧ b < B2.n := fun b hb => ⟨Nat.le_of_not_lt (a25.at hb).1, (a25.at hb).2⟩
  have r3 : ∀ b, blkOf w3 = some b → B2.n ≤ b ∧ b < B3.n := fun b hb => ⟨Nat.le_of_not_lt (a35.at hb).1, (a35.at hb).2⟩
  have r4 : ∀ b, blkOf w4 = some b → B3.n ≤ b ∧ ¬ Rq b := fun b hb => ⟨Nat.le_of_not_lt fun h => (q4a.at hb).1 (.inl h), fun h => (q4a.at hb).1 (.inr h)⟩
  refine ⟨w0, w1, w2, w3, w4, H', c0, c1, c2, c3, c4, Rq, ?_, k1.trans (q2.mono (upA k1)), ?_⟩
  · refine Ev.enter (fun n => f20_eq rfl n _ _) ?_
    have b0 : Box (fun b => b = H2.n) H3 H2.n [nilS, nilS, nilS, nilS, nilS] := ⟨rfl, _, _, push_self⟩
    have b1 : Box (fun b => b = H2.n) B0 H2.n [w0, nilS, nilS, nilS, nilS] := ⟨rfl, _, _, a03⟩
    have b2 : Box (fun b => b = H2.n) B1 H2.n [w0, w1, nilS, nilS, nilS] := ⟨rfl, _, _, a13⟩
    have b3 : Box (fun b => b = H2.n) B2 H2.n [w0, w1, w2, nilS, nilS] := ⟨rfl, _, _, a23⟩
    simp only [f20, real_b, real_i, real_c, chk_t, bnd_some, bnd_up, iff_t, iff_f, gd_t, gd_f, wd_b, wd_u, pick_t, pick_f, b_lss, b_leq, b_gtr, b_geq, b_eql, b_neq, b_seql, b_sneq, b_add, b_sub, u_not, nilC_ptr, fAddr_ptr, Nat.zero_add, extr0, extr1, extr2, lenStr, decide_true, decide_false, bt_tt, bt_tf, bt_ft, bt_ff, bt_bne, Bool.not_true, Bool.not_false, Int.reduceBEq, Int.reduceBNe, hnew, show newV [.slice none 0 0, .slice none 0 0, .slice none 0 0, .slice none 0 0, .slice none 0 0] H1 = _ from e2, show newV [.slice none 0 0, .slice none 0 0, .slice none 0 0, .slice none 0 0, .slice none 0 0] H2 = _ from e3,
      b0.ld (k := 0) (v := nilS) rfl, (g1.keep kk3).d0, show app 1 16 nilS v0 H3 = _ from a01, a02, b1.ld (k := 1) (v := nilS) rfl, (g1.keep a07).d1, show app 2 16 nilS v1 B0 = _ from a11, a12, b2.ld (k := 2) (v := nilS) rfl, (g1.keep a17).d2, show app 2 24 nilS v2 B1 = _ from a21, a22,
      b3.ld (k := 3) (v := nilS) rfl, (g1.keep a27).d3, show app 1 16 nilS v3 B2 = _ from a31, a32]
    exact q1.loop
  · have hnH : H.n < H1.n := by omega
    refine ⟨z0.weak fun b hb h => ?_, z1.weak fun b hb h => ?_, z2.weak fun b hb h => ?_, z3.weak fun b hb h => ?_, q4a.low fun b hb => ?_, any_str a06, any_lv a16, any_pt a26, any_str a36, q4c, fun b hb => ⟨fun h => ?_, (q4r b hb).2⟩, ?_, ?_, ?_, ?_⟩
    · have := r0 b hb; have h : b < H.n := h; omega
    · have := r1 b hb; have h : b < H.n := h; omega
    · have := r2 b hb; have h : b < H.n := h; omega
    · have := r3 b hb; have h : b < H.n := h; omega
    · rcases hb with h | h
      · have h : b < H.n := h; exact .inl (by omega)
      · exact .inr h
    · have := (q4r b hb).1; have h : b < H.n := h; omega
    · intro b h0
      have := r0 b h0
      exact ⟨fun h => by have := r1 b h; omega, fun h => by have := r2 b h; omega, fun h => by have := r3 b h; omega, fun h => by have := (r4 b h).1; omega, fun h => by have := (q4r b h).1; omega⟩
    · intro b h0
      have := r1 b h0
      exact ⟨fun h => by have := r2 b h; omega, fun h => by have := r3 b h; omega, fun h => by have := (r4 b h).1; omega, fun h => by have := (q4r b h).1; omega⟩
    · intro b h0
      have := r2 b h0
      exact ⟨fun h => by have := r3 b h; omega, fun h => by have := (r4 b h).1; omega, fun h => by have := (q4r b h).1; omega⟩
    · intro b h0
      have := r3 b h0
      exact ⟨fun h => by have := (r4 b h).1; omega, fun h => by have := (q4r b h).1; omega⟩
/-- The copy: what can be read of it, and the two lists that are its owner's to write. -/
theorem copy_gr {H : Heap} {g : Gr} {cs : List Value} (hg : Rp.rep (all H) H g cs) (sg : Small g) :
    ∃ w0 w1 w2 w3 w4 H' c0 c3, Cl 20 [.agg cs.toArray] H (.agg [w0, w1, w2, w3, w4].toArray) H' ∧ Keep (all H) H H' ∧ [w0, w1, w2, w3, w4].all oneC = true ∧
      Acc (all H) H' 1 w0 g.terms.length c0 ∧ RpL (all H) H' g.terms c0 ∧ Acc (all H) H' 1 w3 g.nons.length c3 ∧ RpL (all H) H' g.nons c3 ∧
      (∀ b, blkOf w0 = some b → blkOf w3 ≠ some b) ∧
      Sli (fun b => H.n ≤ b ∧ b < H'.n ∧ blkOf w0 ≠ some b ∧ blkOf w3 ≠ some b) H' g.levels w1 ∧ Sli (fun b => H.n ≤ b ∧ b < H'.n ∧ blkOf w0 ≠ some b ∧ blkOf w3 ≠ some b) H' g.pats w2 ∧ Sli (fun b => H.n ≤ b ∧ b < H'.n ∧ blkOf w0 ≠ some b ∧ blkOf w3 ≠ some b) H' g.prods w4 := by
  obtain ⟨w0, w1, w2, w3, w4, H', c0, c1, c2, c3, c4, Rq, h1, h2, o⟩ := copy_own hg sg
  have new : ∀ {b : Nat}, ¬ all H b → H.n ≤ b := fun h => Nat.le_of_not_lt h
  refine ⟨w0, w1, w2, w3, w4, H', c0, c3, h1, h2, ?_, o.a0, o.r0 |> any_str, o.a3, o.r3 |> any_str, fun b hb => (o.ne0 b hb).2.2.1, ?_, ?_, ?_⟩
  · simp only [List.all_cons, List.all_nil, Bool.and_true, Bool.and_eq_true]
    exact ⟨o.a0.oneC.1, o.a1.oneC.1, o.a2.oneC.1, o.a3.oneC.1, o.a4.oneC.1⟩
  · exact ⟨c1, o.a1.read'.mono fun b hb => ⟨new (o.a1.at hb).1, (o.a1.at hb).2, fun h => (o.ne0 b h).1 hb, (o.ne1 b hb).2.1⟩, any_lv o.r1⟩
  · exact ⟨c2, o.a2.read'.mono fun b hb => ⟨new (o.a2.at hb).1, (o.a2.at hb).2, fun h => (o.ne0 b h).2.1 hb, (o.ne2 b hb).1⟩, any_pt o.r2⟩
  · refine ⟨c4, o.a4.read'.mono fun b hb => ⟨new fun h => (o.a4.at hb).1 (.inl h), (o.a4.at hb).2, fun h => (o.ne0 b h).2.2.2.1 hb, fun h => (o.ne3 b h).1 hb⟩, o.r4.mono fun b hb => ⟨new (o.rq b hb).1, (o.rq b hb).2, fun h => (o.ne0 b h).2.2.2.2 hb, fun h => (o.ne3 b h).2 hb⟩⟩
end Go.Eng
