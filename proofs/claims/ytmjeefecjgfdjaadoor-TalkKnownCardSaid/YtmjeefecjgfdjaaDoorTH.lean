/- Bytes one behind the other. -/
import Derived.Test.YtmjeefecjgfdjaaDoorTG
set_option linter.unusedVariables false
set_option linter.unusedSimpArgs false
namespace Go.Eng
open Go Go.Proofs

/-- A block of noughts, filled from the beginning. -/
def Rm (R : Nat → Prop) (H : Heap) (v : Value) (N : Nat) (ds : List Value) : Prop :=
  (N = 0 ∧ v = nilS ∧ ds = []) ∨ ∃ b rest, v = .slice (some ⟨b, 0, none⟩) ds.length N ∧ ¬ R b ∧ b < H.n ∧ H.get b = some ⟨ds ++ rest, 1, true⟩ ∧ (ds ++ rest).length = N
theorem Rm.app {R : Nat → Prop} {H : Heap} {v x : Value} {N n : Nat} {ds cs : List Value} (h : Rm R H v N ds) (hx : addend 1 x H = some (n, cs)) (hc : cs.length = n) (hb : ds.length + n ≤ N) (hN : N ≤ mostBytes) :
    ∃ v' H', Eng.app 1 1 v x H = some (v', H') ∧ Rm R H' v' N (ds ++ cs) ∧ Keep R H H' := by
  unfold Eng.app
  simp only [hx]
  by_cases hn : n = 0
  · subst hn
    have : cs = [] := List.length_eq_zero_iff.1 hc
    subst this
    rcases h with ⟨h1, rfl, h2⟩ | ⟨b, rest, rfl, h⟩
    · exact ⟨nilS, H, by simp, .inl ⟨h1, rfl, by simp [h2]⟩, Keep.refl _ _⟩
    · exact ⟨_, H, by simp; rfl, .inr ⟨b, rest, by simp, by simpa using h⟩, Keep.refl _ _⟩
  · rcases h with ⟨h1, rfl, h2⟩ | ⟨b, rest, rfl, h1, h2, h3, h4⟩
    · omega
    · simp only [List.length_append] at h4
      have hm : ¬ ¬ (ds.length + n) * 1 ≤ mostBytes := by omega
      have hs : splice (ds ++ rest) (0 + ds.length * 1) cs = ds ++ cs ++ rest.drop n := by
        simp only [splice, Nat.zero_add, Nat.mul_one, List.take_left, hc]
        rw [List.drop_append]
        simp
      refine ⟨.slice (some ⟨b, 0, none⟩) (ds ++ cs).length N, H.upd b (some ⟨ds ++ cs ++ rest.drop n, 1, true⟩), ?_, .inr ⟨b, rest.drop n, rfl, h1, h2, upd_self, by simp; omega⟩, Keep.upd h1⟩
      simp only [if_neg hn, if_neg hm, h3, Option.isSome_none, Bool.not_true, Bool.or_self, Bool.false_eq_true, if_false]
      rw [if_neg (by omega), if_pos (by simp only [List.length_append]; omega), hs]
      simp [hc]
theorem Rm.acc {R : Nat → Prop} {H : Heap} {v : Value} {N : Nat} {ds : List Value} (h : Rm R H v N ds) (hN : ds.length = N) : Acc R H 1 v N ds := by
  rcases h with ⟨h1, rfl, rfl⟩ | ⟨b, rest, rfl, h1, h2, h3, h4⟩
  · subst h1; exact Acc.nil
  · have : rest = [] := by
      simp only [List.length_append] at h4
      exact List.length_eq_zero_iff.1 (by omega)
    subst this
    rw [List.append_nil] at h3
    exact .inr ⟨b, by rw [hN], h1, h2, h3, by omega⟩
theorem Rm.keep {R Q : Nat → Prop} {H H' : Heap} {v : Value} {N : Nat} {ds : List Value} (h : Rm R H v N ds) (hk : Keep (all H) H H') : Rm R H' v N ds := by
  rcases h with h | ⟨b, rest, h1, h2, h3, h4, h5⟩
  · exact .inl h
  · exact .inr ⟨b, rest, h1, h2, Nat.lt_of_lt_of_le h3 hk.1, by rw [hk.2 b h3]; exact h4, h5⟩

theorem rep_len {n : Nat} {z : Value} : (rep n [z]).length = n := by
  induction n with
  | zero => rfl
  | succ n ih => simp [rep, ih]
theorem grow_ok {H : Heap} {N : Nat} (hN : N ≤ mostBytes) : ∃ v H', Cl 76 [nilS, .int .i64 (N : Int)] H v H' ∧ Rm (all H) H' v N [] ∧ Keep (all H) H H' := by
  have hm : mostBytes = 140737488355328 := rfl
  have e0 : ((N : Int) < 0) = False := by simp
  have c0 : capS (.slice none 0 0) = some (.int .i64 0) := rfl
  have l0 : lenS (.slice none 0 0) = some (.int .i64 0) := rfl
  have s0 : slcS 1 (.slice none 0 0) none (some (.int .i64 0)) none = some (.slice none 0 0) := rfl
  have w0 : IntKind.i64.wrap (0 - 0) = 0 := rfl
  have w1 : IntKind.i64.wrap ((N : Int) - 0) = (N : Int) := by rw [wrap_i64 (by omega) (by omega)]; omega
  by_cases h : N = 0
  · subst h
    refine ⟨nilS, H, ?_, .inl ⟨rfl, rfl, rfl⟩, Keep.refl _ _⟩
    refine Ev.enter (fun n => f76_eq rfl n _ _ _) ?_
    have e1 : ((((0 : Nat) : Int)) > 0) = False := by simp
    simp only [f76, f76_J1, real_b, real_i, real_c, chk_t, bnd_some, bnd_up, iff_t, iff_f, gd_t, gd_f, wd_b, wd_u, pick_t, pick_f, b_lss, b_leq, b_gtr, b_geq, b_eql, b_neq, b_seql, b_sneq, b_add, b_sub, u_not, nilC_ptr, fAddr_ptr, Nat.zero_add, extr0, extr1, extr2, lenStr, decide_true, decide_false, bt_tt, bt_tf, bt_ft, bt_ff, bt_bne, Bool.not_true, Bool.not_false, Int.reduceBEq, Int.reduceBNe, extr30, extr31, e0, c0, l0, w0, w1, e1]
    exact Ev.pure _
  · have e1 : ((N : Int) > 0) = True := by simp; omega
    have a1 : appZ 1 1 [.int .u8 0] (.slice none 0 0) (.int .i64 (N : Int)) H = some (.slice (some ⟨H.n, 0, none⟩) N N, H.push ⟨rep N [.int .u8 0], 1, true⟩) := by
      simp only [appZ]
      rw [if_pos ⟨by omega, by omega, by simp; omega, rfl⟩]
      simp
    have s1 : slcS 1 (.slice (some ⟨H.n, 0, none⟩) N N) none (some (.int .i64 0)) none = some (.slice (some ⟨H.n, 0, none⟩) 0 N) := by simp [slcS, bound]
    refine ⟨.slice (some ⟨H.n, 0, none⟩) 0 N, H.push ⟨rep N [.int .u8 0], 1, true⟩, ?_, .inr ⟨H.n, rep N [.int .u8 0], rfl, Nat.lt_irrefl _, by simp [push_n], push_self, by simpa using rep_len⟩, push_keep⟩
    refine Ev.enter (fun n => f76_eq rfl n _ _ _) ?_
    simp only [f76, f76_J1, real_b, real_i, real_c, chk_t, bnd_some, bnd_up, iff_t, iff_f, gd_t, gd_f, wd_b, wd_u, pick_t, pick_f, b_lss, b_leq, b_gtr, b_geq, b_eql, b_neq, b_seql, b_sneq, b_add, b_sub, u_not, nilC_ptr, fAddr_ptr, Nat.zero_add, extr0, extr1, extr2, lenStr, decide_true, decide_false, bt_tt, bt_tf, bt_ft, bt_ff, bt_bne, Bool.not_true, Bool.not_false, Int.reduceBEq, Int.reduceBNe, extr30, extr31, e0, c0, l0, s0, w0, w1, e1, a1, s1]
    exact Ev.pure _

/-- Slices of bytes, as cells. -/
def PS (R : Nat → Prop) (H : Heap) (vs : List Value) (ds : List (List Nat)) : Prop := vs.length = ds.length ∧ ∀ (i : Nat) (d : List Nat), ds[i]? = some d → ∃ v, vs[i]? = some v ∧ Sl R H 1 v d.length (B d)
theorem PS.keep {R : Nat → Prop} {H H' : Heap} {vs : List Value} {ds : List (List Nat)} (h : PS R H vs ds) (hk : Keep R H H') : PS R H' vs ds :=
  ⟨h.1, fun i d hd => by obtain ⟨v, h1, h2⟩ := h.2 i d hd; exact ⟨v, h1, h2.keep hk⟩⟩
theorem PS.mono {R R' : Nat → Prop} {H : Heap} {vs : List Value} {ds : List (List Nat)} (h : PS R H vs ds) (hR : ∀ b, R b → R' b) : PS R' H vs ds :=
  ⟨h.1, fun i d hd => by obtain ⟨v, h1, h2⟩ := h.2 i d hd; exact ⟨v, h1, h2.mono hR⟩⟩
theorem PS.two {R : Nat → Prop} {H : Heap} {v v' : Value} {d d' : List Nat} (h : Sl R H 1 v d.length (B d)) (h' : Sl R H 1 v' d'.length (B d')) : PS R H [v, v'] [d, d'] := by
  refine ⟨rfl, fun i x hx => ?_⟩
  rcases i with _ | _ | i
  · simp only [List.getElem?_cons_zero, Option.some.injEq] at hx; subst hx; exact ⟨v, rfl, h⟩
  · simp only [List.getElem?_cons_succ, List.getElem?_cons_zero, Option.some.injEq] at hx; subst hx; exact ⟨v', rfl, h'⟩
  · simp at hx
theorem take_flat {ds : List (List Nat)} {i : Nat} {d : List Nat} (h : ds[i]? = some d) : (ds.take (i + 1)).flatten = (ds.take i).flatten ++ d := by
  rw [List.take_add_one, h]; simp
theorem concat_add {R : Nat → Prop} (hR : ∀ (H : Heap), True) {H0 : Heap} {x : Value} {vs : List Value} {ds : List (List Nat)} (hv : vs.length = ds.length) (hm : ds.flatten.length ≤ mostBytes) (hl : ds.length < 9223372036854775807) :
    ∀ (k i : Nat) (H : Heap) (v : Value), i + k = ds.length → Keep (all H0) H0 H → Sl (all H0) H 1 x ds.length vs → PS (all H0) H vs ds → Rm (all H0) H v ds.flatten.length (B (ds.take i).flatten) →
      ∃ w H', Ev (fun n m => f64_L1 real (AC n) n m v x (.int .i64 (ds.length : Int)) (.int .i64 (i : Int)) H) (w, H') ∧ Acc (all H0) H' 1 w ds.flatten.length (B ds.flatten) ∧ Keep (all H0) H0 H' := by
  intro k
  induction k with
  | zero =>
    intro i H v hi hk hx hp hr
    refine ⟨v, H, ?_, ?_, hk⟩
    · refine Ev.step (fun n m => f64_L1.eq_2 _ _ _ _ _ _ _ _ _) ?_
      simp only [real_b, real_i, real_c, chk_t, bnd_some, bnd_up, iff_t, iff_f, gd_t, gd_f, wd_b, wd_u, pick_t, pick_f, b_lss, b_leq, b_gtr, b_geq, b_eql, b_neq, b_seql, b_sneq, b_add, b_sub, u_not, nilC_ptr, fAddr_ptr, Nat.zero_add, extr0, extr1, extr2, lenStr, decide_true, decide_false, bt_tt, bt_tf, bt_ft, bt_ff, bt_bne, Bool.not_true, Bool.not_false, Int.reduceBEq, Int.reduceBNe, extr30, extr31, idx_ge (show ds.length ≤ i by omega)]
      exact Ev.pure _
    · rw [List.take_of_length_le (by omega)] at hr
      exact hr.acc (B_length _)
  | succ k ih =>
    intro i H v hi hk hx hp hr
    obtain ⟨d, hd, _⟩ := drop_at (l := ds) (i := i) (by omega)
    obtain ⟨u, hu, hu2⟩ := hp.2 i d hd
    obtain ⟨p, p1, p2⟩ := hx.at1 hu
    have hfl := take_flat hd
    have hle : (ds.take i).flatten.length + d.length ≤ ds.flatten.length := by
      have : ds.flatten = (ds.take (i + 1)).flatten ++ (ds.drop (i + 1)).flatten := by rw [← List.flatten_append, List.take_append_drop]
      rw [this, hfl]; simp
    obtain ⟨v', H', g1, g2, g3⟩ := hr.app (by have := hu2.addend; exact this) (B_length d) (by rw [B_length]; exact hle) hm
    rw [← B_append, ← hfl] at g2
    obtain ⟨w, H2, k1, k2, k3⟩ := ih (i + 1) H' v' (by omega) (hk.trans g3) (hx.keep g3) (hp.keep g3) g2
    refine ⟨w, H2, ?_, k2, k3⟩
    refine Ev.step (fun n m => f64_L1.eq_2 _ _ _ _ _ _ _ _ _) ?_
    simp only [real_b, real_i, real_c, chk_t, bnd_some, bnd_up, iff_t, iff_f, gd_t, gd_f, wd_b, wd_u, pick_t, pick_f, b_lss, b_leq, b_gtr, b_geq, b_eql, b_neq, b_seql, b_sneq, b_add, b_sub, u_not, nilC_ptr, fAddr_ptr, Nat.zero_add, extr0, extr1, extr2, lenStr, decide_true, decide_false, bt_tt, bt_tf, bt_ft, bt_ff, bt_bne, Bool.not_true, Bool.not_false, Int.reduceBEq, Int.reduceBNe, extr30, extr31, idx_lt (show i < ds.length by omega), p1, p2, g1, idx_up (show i < 9223372036854775807 by omega)]
    exact k1
theorem concat_sum {H : Heap} {x : Value} {vs : List Value} {ds : List (List Nat)} (hx : Sl (all H) H 1 x ds.length vs) (hp : PS (all H) H vs ds) (hm : ds.flatten.length ≤ mostBytes) (hl : ds.length < 9223372036854775807) :
    ∃ w H', (∀ (k i : Nat), i + k = ds.length → Ev (fun n m => f64_L0 real (AC n) n m x (.int .i64 ((ds.take i).flatten.length : Int)) x (.int .i64 (ds.length : Int)) (.int .i64 (i : Int)) H) (w, H')) ∧ Acc (all H) H' 1 w ds.flatten.length (B ds.flatten) ∧ Keep (all H) H H' := by
  obtain ⟨v, H1, g1, g2, g3⟩ := grow_ok (H := H) hm
  obtain ⟨w, H2, k1, k2, k3⟩ := concat_add (R := all H) (fun _ => trivial) hp.1 hm hl ds.length 0 H1 v (by omega) g3 (hx.keep g3) (hp.keep g3) g2
  refine ⟨w, H2, ?_, k2, k3⟩
  intro k
  induction k with
  | zero =>
    intro i hi
    refine Ev.step (fun n m => f64_L0.eq_2 _ _ _ _ _ _ _ _ _ _) ?_
    rw [List.take_of_length_le (by omega)]
    simp only [real_b, real_i, real_c, chk_t, bnd_some, bnd_up, iff_t, iff_f, gd_t, gd_f, wd_b, wd_u, pick_t, pick_f, b_lss, b_leq, b_gtr, b_geq, b_eql, b_neq, b_seql, b_sneq, b_add, b_sub, u_not, nilC_ptr, fAddr_ptr, Nat.zero_add, extr0, extr1, extr2, lenStr, decide_true, decide_false, bt_tt, bt_tf, bt_ft, bt_ff, bt_bne, Bool.not_true, Bool.not_false, Int.reduceBEq, Int.reduceBNe, extr30, extr31, idx_ge (show ds.length ≤ i by omega)]
    refine Ev.callC g1 ?_
    simp only [real_b, real_i, real_c, chk_t, bnd_some, bnd_up, iff_t, iff_f, gd_t, gd_f, wd_b, wd_u, pick_t, pick_f, b_lss, b_leq, b_gtr, b_geq, b_eql, b_neq, b_seql, b_sneq, b_add, b_sub, u_not, nilC_ptr, fAddr_ptr, Nat.zero_add, extr0, extr1, extr2, lenStr, decide_true, decide_false, bt_tt, bt_tf, bt_ft, bt_ff, bt_bne, Bool.not_true, Bool.not_false, Int.reduceBEq, Int.reduceBNe, extr30, extr31, hx.lenS]
    exact k1.loop
  | succ k ih =>
    intro i hi
    obtain ⟨d, hd, _⟩ := drop_at (l := ds) (i := i) (by omega)
    obtain ⟨u, hu, hu2⟩ := hp.2 i d hd
    obtain ⟨p, p1, p2⟩ := hx.at1 hu
    have hfl := take_flat hd
    have hle : (ds.take i).flatten.length + d.length ≤ ds.flatten.length := by
      have : ds.flatten = (ds.take (i + 1)).flatten ++ (ds.drop (i + 1)).flatten := by rw [← List.flatten_append, List.take_append_drop]
      rw [this, hfl]; simp
    have hm' : mostBytes = 140737488355328 := rfl
    have e1 : IntKind.i64.wrap (((ds.take i).flatten.length : Int) + (d.length : Int)) = (((ds.take (i + 1)).flatten.length : Nat) : Int) := by
      rw [hfl, List.length_append, wrap_i64 (by omega) (by omega)]; omega
    have e2 : ((((ds.take (i + 1)).flatten.length : Nat) : Int) < 0) = False := by simp
    refine Ev.step (fun n m => f64_L0.eq_2 _ _ _ _ _ _ _ _ _ _) ?_
    simp only [real_b, real_i, real_c, chk_t, bnd_some, bnd_up, iff_t, iff_f, gd_t, gd_f, wd_b, wd_u, pick_t, pick_f, b_lss, b_leq, b_gtr, b_geq, b_eql, b_neq, b_seql, b_sneq, b_add, b_sub, u_not, nilC_ptr, fAddr_ptr, Nat.zero_add, extr0, extr1, extr2, lenStr, decide_true, decide_false, bt_tt, bt_tf, bt_ft, bt_ff, bt_bne, Bool.not_true, Bool.not_false, Int.reduceBEq, Int.reduceBNe, extr30, extr31, f64_J1, idx_lt (show i < ds.length by omega), p1, p2, hu2.lenS, e1, e2, idx_up (show i < 9223372036854775807 by omega)]
    exact ih (i + 1) (by omega)
theorem join_ok {H : Heap} {x : Value} {vs : List Value} {ds : List (List Nat)} (hx : Sl (all H) H 1 x ds.length vs) (hp : PS (all H) H vs ds) (hm : ds.flatten.length ≤ mostBytes) (hl : ds.length < 9223372036854775807) :
    ∃ w H', Cl 47 [x] H w H' ∧ Acc (all H) H' 1 w ds.flatten.length (B ds.flatten) ∧ Keep (all H) H H' := by
  obtain ⟨w, H', g1, g2, g3⟩ := concat_sum hx hp hm hl
  refine ⟨w, H', ?_, g2, g3⟩
  have hc : Cl 64 [x] H w H' := by
    refine Ev.enter (fun n => f64_eq rfl n _ _) ?_
    simp only [f64, real_b, real_i, real_c, chk_t, bnd_some, bnd_up, iff_t, iff_f, gd_t, gd_f, wd_b, wd_u, pick_t, pick_f, b_lss, b_leq, b_gtr, b_geq, b_eql, b_neq, b_seql, b_sneq, b_add, b_sub, u_not, nilC_ptr, fAddr_ptr, Nat.zero_add, extr0, extr1, extr2, lenStr, decide_true, decide_false, bt_tt, bt_tf, bt_ft, bt_ff, bt_bne, Bool.not_true, Bool.not_false, Int.reduceBEq, Int.reduceBNe, extr30, extr31, hx.lenS]
    exact (g1 ds.length 0 (by omega)).loop
  refine Ev.enter (fun n => f47_eq rfl n _ _) ?_
  simp only [f47, real_b, real_i, real_c]
  refine Ev.callC hc ?_
  exact Ev.pure _

/-! ### numbers and texts written -/
theorem num_any (x : Int) (H : Heap) : ∃ v H' e, Cl 48 [.int .i64 x] H (.tuple #[v, .int .i64 e]) H' ∧ Acc (all H) H' 1 v (nb x).length (B (nb x)) ∧ Keep (all H) H H' ∧ (okN x = true → e = 0) := by
  by_cases h : okN x = true
  · have h' := h
    simp only [okN, Bool.and_eq_true, decide_eq_true_eq] at h'
    obtain ⟨m, rfl⟩ := Int.eq_ofNat_of_zero_le h'.1
    obtain ⟨v, H', k, g1, g2, g3⟩ := num_ok (x := m) (by omega) H
    rw [nb_nat (by omega)]
    have hk : k = (vnum m).length := g2.sl.blen
    rw [hk] at g2
    exact ⟨v, H', 0, g1, g2, g3, fun _ => rfl⟩
  · have e : nb x = [] := by simp [nb, h]
    rw [e]
    refine ⟨nilS, H, 2, num_bad ?_ H, Acc.nil, Keep.refl _ _, fun h' => absurd h' h⟩
    simp [okN] at h
    omega
theorem rnum_any (x : Int) (H : Heap) : ∃ v H' e, Cl 49 [.int .i64 x] H (.tuple #[v, .int .i64 e]) H' ∧ Acc (all H) H' 1 v (nb x).length (B (nb x)) ∧ Keep (all H) H H' := by
  by_cases h : okN x = true
  · have h' := h
    simp only [okN, Bool.and_eq_true, decide_eq_true_eq] at h'
    obtain ⟨m, rfl⟩ := Int.eq_ofNat_of_zero_le h'.1
    obtain ⟨v, H', k, g1, g2, g3⟩ := rnum_ok (x := m) (by omega) H
    rw [nb_nat (by omega)]
    have hk : k = (vnum m).length := g2.sl.blen
    rw [hk] at g2
    exact ⟨v, H', 0, g1, g2, g3⟩
  · have e : nb x = [] := by simp [nb, h]
    rw [e]
    refine ⟨nilS, H, 2, rnum_bad ?_ H, Acc.nil, Keep.refl _ _⟩
    simp [okN] at h
    omega
/-- A text's bytes. -/
def tb (d : List Nat) : List Nat := nb (d.length : Int) ++ d
theorem tb_len (d : List Nat) : (tb d).length ≤ d.length + 9 := by
  have := nb_len (d.length : Int)
  simp only [tb, List.length_append]; omega
theorem text_ok {H : Heap} {v : Value} {d : List Nat} (h : By H d v) (hd : d.length ≤ 9007199254740991) (hb : d.length + 9 ≤ mostBytes) : ∃ w H', Cl 46 [v, .int .i64 (d.length : Int)] H (.tuple #[w, .int .i64 0]) H' ∧ Acc (all H) H' 1 w (tb d).length (B (tb d)) ∧ Keep (all H) H H' := by
  obtain ⟨u, H1, e, g1, g2, g3, g4⟩ := num_any (d.length : Int) H
  have he : e = 0 := g4 (by simp [okN]; omega)
  subst he
  have := nb_len (d.length : Int)
  obtain ⟨w, H2, k1, k2, k3⟩ := g2.app (by_ := 1) ((Rb.all H).mono g3.1) (h.keep g3).addend h.len (by omega)
  rw [← B_append] at k2
  have hl : (nb (d.length : Int)).length + d.length = (tb d).length := by simp [tb]
  rw [hl] at k2
  refine ⟨w, H2, ?_, k2, g3.trans k3⟩
  have e0 : ((d.length : Int) < 0) = False := by simp
  have e1 : ((d.length : Int) > (d.length : Int)) = False := by simp
  refine Ev.enter (fun n => f46_eq rfl n _ _ _) ?_
  simp only [f46, real_b, real_i, real_c, chk_t, bnd_some, bnd_up, iff_t, iff_f, gd_t, gd_f, wd_b, wd_u, pick_t, pick_f, b_lss, b_leq, b_gtr, b_geq, b_eql, b_neq, b_seql, b_sneq, b_add, b_sub, u_not, nilC_ptr, fAddr_ptr, Nat.zero_add, extr0, extr1, extr2, lenStr, decide_true, decide_false, bt_tt, bt_tf, bt_ft, bt_ff, bt_bne, Bool.not_true, Bool.not_false, Int.reduceBEq, Int.reduceBNe, extr30, extr31, e0, h.lenS, e1]
  refine Ev.callC g1 ?_
  simp only [real_b, real_i, real_c, chk_t, bnd_some, bnd_up, iff_t, iff_f, gd_t, gd_f, wd_b, wd_u, pick_t, pick_f, b_lss, b_leq, b_gtr, b_geq, b_eql, b_neq, b_seql, b_sneq, b_add, b_sub, u_not, nilC_ptr, fAddr_ptr, Nat.zero_add, extr0, extr1, extr2, lenStr, decide_true, decide_false, bt_tt, bt_tf, bt_ft, bt_ff, bt_bne, Bool.not_true, Bool.not_false, Int.reduceBEq, Int.reduceBNe, extr30, extr31, k1]
  exact Ev.pure _
theorem nbs_len (xs : List Int) : (nbs xs).length ≤ 9 * xs.length := by
  induction xs with
  | nil => simp [nbs]
  | cons x xs ih =>
    have := nb_len x
    simp only [nbs, List.flatMap_cons, List.length_append, List.length_cons] at *
    omega
theorem I_at {xs : List Int} {i : Nat} {x : Int} (h : xs[i]? = some x) : (I xs)[i]? = some (.int .i64 x) := by simp [I, h]
theorem nums_loop {H0 : Heap} {x : Value} {xs : List Int} (hb : 9 * xs.length ≤ mostBytes) : ∀ (k i : Nat) (H : Heap) (v : Value), i + k = xs.length → Keep (all H0) H0 H → Sl (all H0) H 1 x xs.length (I xs) → Acc (all H0) H 1 v (nbs (xs.take i)).length (B (nbs (xs.take i))) →
    ∃ w H', Ev (fun n m => f29_L0 real (AC n) n m v x (.int .i64 (xs.length : Int)) (.int .i64 (i : Int)) H) (w, H') ∧ Acc (all H0) H' 1 w (nbs xs).length (B (nbs xs)) ∧ Keep (all H0) H0 H' := by
  have hm' : mostBytes = 140737488355328 := rfl
  intro k
  induction k with
  | zero =>
    intro i H v hi hk hx hv
    rw [List.take_of_length_le (by omega)] at hv
    refine ⟨v, H, ?_, hv, hk⟩
    refine Ev.step (fun n m => f29_L0.eq_2 _ _ _ _ _ _ _ _ _) ?_
    simp only [real_b, real_i, real_c, chk_t, bnd_some, bnd_up, iff_t, iff_f, gd_t, gd_f, wd_b, wd_u, pick_t, pick_f, b_lss, b_leq, b_gtr, b_geq, b_eql, b_neq, b_seql, b_sneq, b_add, b_sub, u_not, nilC_ptr, fAddr_ptr, Nat.zero_add, extr0, extr1, extr2, lenStr, decide_true, decide_false, bt_tt, bt_tf, bt_ft, bt_ff, bt_bne, Bool.not_true, Bool.not_false, Int.reduceBEq, Int.reduceBNe, extr30, extr31, idx_ge (show xs.length ≤ i by omega)]
    exact Ev.pure _
  | succ k ih =>
    intro i H v hi hk hx hv
    obtain ⟨a, ha, _⟩ := drop_at (l := xs) (i := i) (by omega)
    obtain ⟨p, p1, p2⟩ := hx.at1 (I_at ha)
    obtain ⟨u, H1, e, g1, g2, g3, _⟩ := num_any a H
    have hfl : nbs (xs.take (i + 1)) = nbs (xs.take i) ++ nb a := by
      rw [List.take_add_one, ha]; simp [nbs, List.flatMap_append]
    have hle : (nbs (xs.take (i + 1))).length ≤ 9 * xs.length := by
      refine Nat.le_trans (nbs_len _) ?_
      simp; omega
    rw [hfl, List.length_append] at hle
    have hk1 : Keep (all H0) H H1 := g3.mono (fun b hb => Nat.lt_of_lt_of_le hb hk.1)
    obtain ⟨w, H2, k1, k2, k3⟩ := (hv.keep g3).app (by_ := 1) (((Rb.all H0).mono hk.1).mono g3.1) g2.sl.addend (by simpa using B_length (nb a)) (by omega)
    rw [← B_append, ← hfl, ← List.length_append, ← hfl] at k2
    obtain ⟨w', H3, l1, l2, l3⟩ := ih (i + 1) H2 w (by omega) (hk.trans (hk1.trans k3)) ((hx.keep hk1).keep k3) k2
    refine ⟨w', H3, ?_, l2, l3⟩
    refine Ev.step (fun n m => f29_L0.eq_2 _ _ _ _ _ _ _ _ _) ?_
    simp only [real_b, real_i, real_c, chk_t, bnd_some, bnd_up, iff_t, iff_f, gd_t, gd_f, wd_b, wd_u, pick_t, pick_f, b_lss, b_leq, b_gtr, b_geq, b_eql, b_neq, b_seql, b_sneq, b_add, b_sub, u_not, nilC_ptr, fAddr_ptr, Nat.zero_add, extr0, extr1, extr2, lenStr, decide_true, decide_false, bt_tt, bt_tf, bt_ft, bt_ff, bt_bne, Bool.not_true, Bool.not_false, Int.reduceBEq, Int.reduceBNe, extr30, extr31, idx_lt (show i < xs.length by omega), p1, p2]
    refine Ev.callC g1 ?_
    simp only [real_b, real_i, real_c, chk_t, bnd_some, bnd_up, iff_t, iff_f, gd_t, gd_f, wd_b, wd_u, pick_t, pick_f, b_lss, b_leq, b_gtr, b_geq, b_eql, b_neq, b_seql, b_sneq, b_add, b_sub, u_not, nilC_ptr, fAddr_ptr, Nat.zero_add, extr0, extr1, extr2, lenStr, decide_true, decide_false, bt_tt, bt_tf, bt_ft, bt_ff, bt_bne, Bool.not_true, Bool.not_false, Int.reduceBEq, Int.reduceBNe, extr30, extr31, k1, idx_up (show i < 9223372036854775807 by omega)]
    exact l1
theorem nums_ok {H : Heap} {x : Value} {xs : List Int} (hx : Sl (all H) H 1 x xs.length (I xs)) (hb : 9 * xs.length ≤ mostBytes) : ∃ w H', Cl 29 [x] H w H' ∧ Acc (all H) H' 1 w (nbs xs).length (B (nbs xs)) ∧ Keep (all H) H H' := by
  obtain ⟨w, H', g1, g2, g3⟩ := nums_loop hb xs.length 0 H nilS (by omega) (Keep.refl _ _) hx Acc.nil
  refine ⟨w, H', ?_, g2, g3⟩
  refine Ev.enter (fun n => f29_eq rfl n _ _) ?_
  simp only [f29, real_b, real_i, real_c, chk_t, bnd_some, bnd_up, iff_t, iff_f, gd_t, gd_f, wd_b, wd_u, pick_t, pick_f, b_lss, b_leq, b_gtr, b_geq, b_eql, b_neq, b_seql, b_sneq, b_add, b_sub, u_not, nilC_ptr, fAddr_ptr, Nat.zero_add, extr0, extr1, extr2, lenStr, decide_true, decide_false, bt_tt, bt_tf, bt_ft, bt_ff, bt_bne, Bool.not_true, Bool.not_false, Int.reduceBEq, Int.reduceBNe, extr30, extr31, hx.lenS]
  exact g1.loop
def tbs (ds : List (List Nat)) : List Nat := ds.flatMap tb
theorem texts_loop {H0 : Heap} {x : Value} {vs : List Value} {ds : List (List Nat)} {c : List Nat} (hv : vs.length = ds.length) (hds : ∀ d ∈ ds, d.length ≤ 9007199254740991 ∧ d.length + 9 ≤ mostBytes) (hb : c.length + (tbs ds).length ≤ mostBytes) (hl : ds.length < 9223372036854775807) :
    ∀ (k i : Nat) (H : Heap) (v : Value), i + k = ds.length → Keep (all H0) H0 H → Sl (all H) H 1 x ds.length vs → PS (all H) H vs ds → Sl (all H) H 1 v (c ++ tbs (ds.take i)).length (B (c ++ tbs (ds.take i))) → (k = 0 → Acc (all H0) H 1 v (c ++ tbs (ds.take i)).length (B (c ++ tbs (ds.take i)))) →
    ∃ w H', Ev (fun n m => f28_L0 real (AC n) n m v x (.int .i64 (ds.length : Int)) (.int .i64 (i : Int)) H) (w, H') ∧ Acc (all H0) H' 1 w (c ++ tbs ds).length (B (c ++ tbs ds)) ∧ Keep (all H0) H0 H' := by
  have hm' : mostBytes = 140737488355328 := rfl
  intro k
  induction k with
  | zero =>
    intro i H v hi hk hx hp hvv hacc
    have := hacc rfl
    rw [List.take_of_length_le (by omega)] at this
    refine ⟨v, H, ?_, this, hk⟩
    refine Ev.step (fun n m => f28_L0.eq_2 _ _ _ _ _ _ _ _ _) ?_
    simp only [real_b, real_i, real_c, chk_t, bnd_some, bnd_up, iff_t, iff_f, gd_t, gd_f, wd_b, wd_u, pick_t, pick_f, b_lss, b_leq, b_gtr, b_geq, b_eql, b_neq, b_seql, b_sneq, b_add, b_sub, u_not, nilC_ptr, fAddr_ptr, Nat.zero_add, extr0, extr1, extr2, lenStr, decide_true, decide_false, bt_tt, bt_tf, bt_ft, bt_ff, bt_bne, Bool.not_true, Bool.not_false, Int.reduceBEq, Int.reduceBNe, extr30, extr31, idx_ge (show ds.length ≤ i by omega)]
    exact Ev.pure _
  | succ k ih =>
    intro i H v hi hk hx hp hvv _
    obtain ⟨d, hd, _⟩ := drop_at (l := ds) (i := i) (by omega)
    obtain ⟨u, hu, hu2⟩ := hp.2 i d hd
    obtain ⟨p, p1, p2⟩ := hx.at1 hu
    have hdm := hds d (mem_at hd)
    obtain ⟨t, H1, g1, g2, g3⟩ := text_ok hu2 hdm.1 hdm.2
    have hfl : c ++ tbs (ds.take (i + 1)) = (c ++ tbs (ds.take i)) ++ tb d := by
      rw [List.take_add_one, hd]; simp [tbs, List.flatMap_append]
    have hle : (c ++ tbs (ds.take (i + 1))).length ≤ c.length + (tbs ds).length := by
      have : tbs ds = tbs (ds.take (i + 1)) ++ tbs (ds.drop (i + 1)) := by
        simp only [tbs]; rw [← List.flatMap_append, List.take_append_drop]
      rw [this]; simp only [List.length_append]; omega
    have ht1 := hvv.oneC
    have ht2 := g2.sl.oneC
    have hbl : bldS 1 2 [.slice none 0 0] [(0, 1, v), (1, 1, t)] H1 = some (.slice (some ⟨H1.n, 0, none⟩) 2 2, H1.push ⟨[v, t], 1, true⟩) := bld2 ht1.1 ht1.2 ht2.1 ht2.2
    have k1 : Keep (all H1) H1 (H1.push ⟨[v, t], 1, true⟩) := push_keep
    have hx2 : Sl (all (H1.push ⟨[v, t], 1, true⟩)) (H1.push ⟨[v, t], 1, true⟩) 1 (.slice (some ⟨H1.n, 0, none⟩) 2 2) 2 [v, t] := .inr (.inr ⟨H1.n, 0, none, 2, _, rfl, by simp [all, push_n], push_self, by simp, by simp, by simp [cut]⟩)
    have hp2 : PS (all (H1.push ⟨[v, t], 1, true⟩)) (H1.push ⟨[v, t], 1, true⟩) [v, t] [c ++ tbs (ds.take i), tb d] := PS.two ((hvv.up g3).up k1) (g2.sl.up k1)
    obtain ⟨w, H3, j1, j2, j3⟩ := join_ok (ds := [c ++ tbs (ds.take i), tb d]) hx2 hp2 (by simp only [List.flatten_cons, List.flatten_nil, List.append_nil]; rw [← hfl]; omega) (by simp)
    simp only [List.flatten_cons, List.flatten_nil, List.append_nil] at j2
    rw [← hfl] at j2
    have hK : Keep (all H) H H3 := g3.tr (k1.tr j3)
    obtain ⟨w', H4, l1, l2, l3⟩ := ih (i + 1) H3 w (by omega) (hk.tr hK) (hx.up hK) ((hp.keep hK).mono (upA hK)) j2.sl (fun _ => j2.low (fun b hb => upA k1 b (upA g3 b (upA hk b hb))))
    refine ⟨w', H4, ?_, l2, l3⟩
    refine Ev.step (fun n m => f28_L0.eq_2 _ _ _ _ _ _ _ _ _) ?_
    simp only [real_b, real_i, real_c, chk_t, bnd_some, bnd_up, iff_t, iff_f, gd_t, gd_f, wd_b, wd_u, pick_t, pick_f, b_lss, b_leq, b_gtr, b_geq, b_eql, b_neq, b_seql, b_sneq, b_add, b_sub, u_not, nilC_ptr, fAddr_ptr, Nat.zero_add, extr0, extr1, extr2, lenStr, decide_true, decide_false, bt_tt, bt_tf, bt_ft, bt_ff, bt_bne, Bool.not_true, Bool.not_false, Int.reduceBEq, Int.reduceBNe, extr30, extr31, idx_lt (show i < ds.length by omega), p1, p2, hu2.lenS]
    refine Ev.callC g1 ?_
    simp only [real_b, real_i, real_c, chk_t, bnd_some, bnd_up, iff_t, iff_f, gd_t, gd_f, wd_b, wd_u, pick_t, pick_f, b_lss, b_leq, b_gtr, b_geq, b_eql, b_neq, b_seql, b_sneq, b_add, b_sub, u_not, nilC_ptr, fAddr_ptr, Nat.zero_add, extr0, extr1, extr2, lenStr, decide_true, decide_false, bt_tt, bt_tf, bt_ft, bt_ff, bt_bne, Bool.not_true, Bool.not_false, Int.reduceBEq, Int.reduceBNe, extr30, extr31, hbl]
    refine Ev.callC j1 ?_
    simp only [real_b, real_i, real_c, chk_t, bnd_some, bnd_up, iff_t, iff_f, gd_t, gd_f, wd_b, wd_u, pick_t, pick_f, b_lss, b_leq, b_gtr, b_geq, b_eql, b_neq, b_seql, b_sneq, b_add, b_sub, u_not, nilC_ptr, fAddr_ptr, Nat.zero_add, extr0, extr1, extr2, lenStr, decide_true, decide_false, bt_tt, bt_tf, bt_ft, bt_ff, bt_bne, Bool.not_true, Bool.not_false, Int.reduceBEq, Int.reduceBNe, extr30, extr31, idx_up (show i < 9223372036854775807 by omega)]
    exact l1
theorem texts_ok {H : Heap} {v x : Value} {vs : List Value} {ds : List (List Nat)} {c : List Nat} (hne : ds ≠ []) (hds : ∀ d ∈ ds, d.length ≤ 9007199254740991 ∧ d.length + 9 ≤ mostBytes) (hb : c.length + (tbs ds).length ≤ mostBytes) (hl : ds.length < 9223372036854775807) (hx : Sl (all H) H 1 x ds.length vs) (hp : PS (all H) H vs ds) (hv : By H c v) :
    ∃ w H', Cl 28 [v, x] H w H' ∧ Acc (all H) H' 1 w (c ++ tbs ds).length (B (c ++ tbs ds)) ∧ Keep (all H) H H' := by
  obtain ⟨w, H', g1, g2, g3⟩ := texts_loop (c := c) hp.1 hds hb hl ds.length 0 H v (by omega) (Keep.refl _ _) hx hp (by simpa [tbs] using hv) (fun h => absurd (List.length_eq_zero_iff.1 h) hne)
  refine ⟨w, H', ?_, g2, g3⟩
  refine Ev.enter (fun n => f28_eq rfl n _ _ _) ?_
  simp only [f28, real_b, real_i, real_c, chk_t, bnd_some, bnd_up, iff_t, iff_f, gd_t, gd_f, wd_b, wd_u, pick_t, pick_f, b_lss, b_leq, b_gtr, b_geq, b_eql, b_neq, b_seql, b_sneq, b_add, b_sub, u_not, nilC_ptr, fAddr_ptr, Nat.zero_add, extr0, extr1, extr2, lenStr, decide_true, decide_false, bt_tt, bt_tf, bt_ft, bt_ff, bt_bne, Bool.not_true, Bool.not_false, Int.reduceBEq, Int.reduceBNe, extr30, extr31, hx.lenS]
  exact g1.loop

/-! ### by the reference -/
theorem rnumber_ok {H : Heap} {v : Value} {c : List Nat} {x : Int} {R : Nat → Prop} (hR : Rb R H) (hv : Acc R H 1 v c.length (B c)) (hb : c.length + 9 ≤ mostBytes) : ∃ w H', Cl 31 [v, .int .i64 x] H w H' ∧ Acc R H' 1 w (c ++ nb x).length (B (c ++ nb x)) ∧ Keep R H H' := by
  obtain ⟨u, H1, e, g1, g2, g3⟩ := rnum_any x H
  have := nb_len x
  obtain ⟨w, H2, k1, k2, k3⟩ := (hv.keep g3).app (by_ := 1) (hR.mono g3.1) g2.sl.addend (by simpa using B_length (nb x)) (by omega)
  rw [← B_append, ← List.length_append] at k2
  refine ⟨w, H2, ?_, k2, (g3.of_all hR).trans k3⟩
  refine Ev.enter (fun n => f31_eq rfl n _ _ _) ?_
  simp only [f31, real_b, real_i, real_c]
  refine Ev.callC g1 ?_
  simp only [real_b, real_i, real_c, chk_t, bnd_some, bnd_up, iff_t, iff_f, gd_t, gd_f, wd_b, wd_u, pick_t, pick_f, b_lss, b_leq, b_gtr, b_geq, b_eql, b_neq, b_seql, b_sneq, b_add, b_sub, u_not, nilC_ptr, fAddr_ptr, Nat.zero_add, extr0, extr1, extr2, lenStr, decide_true, decide_false, bt_tt, bt_tf, bt_ft, bt_ff, bt_bne, Bool.not_true, Bool.not_false, Int.reduceBEq, Int.reduceBNe, extr30, extr31, k1]
  exact Ev.pure _
theorem rtext_ok {H : Heap} {v t : Value} {c d : List Nat} {R : Nat → Prop} (hR : Rb R H) (hv : Acc R H 1 v c.length (B c)) (ht : Sl R H 1 t d.length (B d)) (hb : c.length + d.length + 9 ≤ mostBytes) : ∃ w H', Cl 30 [v, t] H w H' ∧ Acc R H' 1 w (c ++ tb d).length (B (c ++ tb d)) ∧ Keep R H H' := by
  obtain ⟨u, H1, g1, g2, g3⟩ := rnumber_ok (x := (d.length : Int)) hR hv (by omega)
  have := nb_len (d.length : Int)
  obtain ⟨w, H2, k1, k2, k3⟩ := g2.app (by_ := 1) (hR.mono g3.1) (ht.keep g3).addend ht.len (by rw [List.length_append]; omega)
  rw [← B_append] at k2
  have e : c ++ nb (d.length : Int) ++ d = c ++ tb d := by simp [tb]
  rw [e] at k2
  have e' : (c ++ nb (d.length : Int)).length + d.length = (c ++ tb d).length := by rw [← e]; simp; omega
  rw [e'] at k2
  refine ⟨w, H2, ?_, k2, g3.trans k3⟩
  refine Ev.enter (fun n => f30_eq rfl n _ _ _) ?_
  simp only [f30, real_b, real_i, real_c, chk_t, bnd_some, bnd_up, iff_t, iff_f, gd_t, gd_f, wd_b, wd_u, pick_t, pick_f, b_lss, b_leq, b_gtr, b_geq, b_eql, b_neq, b_seql, b_sneq, b_add, b_sub, u_not, nilC_ptr, fAddr_ptr, Nat.zero_add, extr0, extr1, extr2, lenStr, decide_true, decide_false, bt_tt, bt_tf, bt_ft, bt_ff, bt_bne, Bool.not_true, Bool.not_false, Int.reduceBEq, Int.reduceBNe, extr30, extr31, ht.lenS]
  refine Ev.callC g1 ?_
  simp only [real_b, real_i, real_c, chk_t, bnd_some, bnd_up, iff_t, iff_f, gd_t, gd_f, wd_b, wd_u, pick_t, pick_f, b_lss, b_leq, b_gtr, b_geq, b_eql, b_neq, b_seql, b_sneq, b_add, b_sub, u_not, nilC_ptr, fAddr_ptr, Nat.zero_add, extr0, extr1, extr2, lenStr, decide_true, decide_false, bt_tt, bt_tf, bt_ft, bt_ff, bt_bne, Bool.not_true, Bool.not_false, Int.reduceBEq, Int.reduceBNe, extr30, extr31, k1]
  exact Ev.pure _
end Go.Eng
