/- Numbers and texts taken off, one by one. -/
import Derived.Test.YtmjeefecjgfdjaaDoorTI
set_option linter.unusedVariables false
set_option linter.unusedSimpArgs false
namespace Go.Eng
open Go Go.Proofs

def off (X : Nat → Prop) (p : Nat) (H : Heap) : Nat → Prop := fun b => b < H.n ∧ b ≠ p ∧ ¬ X b
/-- One that takes: what is left, or none. -/
def Tk (X : Nat → Prop) (p : Nat) (H : Heap) (s : Option (List Nat)) : Prop :=
  p < H.n ∧ ∃ w d, H.get p = some ⟨[w, .bool s.isNone], 1, true⟩ ∧ Sl (off X p H) H 1 w d.length (B d) ∧ d.length ≤ mostBytes ∧ (∀ x ∈ d, x < 256) ∧ ∀ d', s = some d' → d = d'
def sN : Option (List Nat) → Int × Option (List Nat)
  | none => (0, none)
  | some d => ((tN d).1, if (tN d).2.2 = 0 then some (tN d).2.1 else none)
def sT (m : Nat) : Option (List Nat) → List Nat × Option (List Nat)
  | none => ([], none)
  | some d => ((tT m d).1, if (tT m d).2.2 = 0 then some (tT m d).2.1 else none)
theorem upd_upd {H : Heap} {b : Nat} {x y : Option Blk} : (H.upd b x).upd b y = H.upd b y := by
  unfold Heap.upd
  congr 1
  funext i
  by_cases h : i = b <;> simp [h]
theorem Acc.past {H H1 H2 : Heap} {v : Value} {n c : Nat} {cs : List Value} (h : Acc (all H) H1 1 v n cs) (hc : c < H.n) (hk : Keep (fun b => b ≠ c) H1 H2) : Acc (all H) H2 1 v n cs :=
  h.gen hk fun b hb _ => by simp only [all] at hb; omega
theorem upd_past {H : Heap} {c : Nat} {x : Option Blk} : Keep (fun b => b ≠ c) H (H.upd c x) := Keep.upd (fun h => h rfl)

section
variable {X : Nat → Prop} {p : Nat} {H : Heap}
/-- The taker is given what is left. -/
theorem Tk.put {H1 : Heap} {r : Value} {d : List Nat} {bad : Bool} {s : Option (List Nat)} (hp : p < H.n) (hX : ∀ b, X b → b < H.n) (hk : Keep (all H) H H1) (hr : Acc (all H) H1 1 r d.length (B d)) (hd : ∀ x ∈ d, x < 256) (hb : d.length ≤ mostBytes) (hs : s = if bad then none else some d) :
    Tk X p (H1.upd p (some ⟨[r, .bool bad], 1, true⟩)) s ∧ Keep (fun b => b < H.n ∧ b ≠ p) H (H1.upd p (some ⟨[r, .bool bad], 1, true⟩)) := by
  refine ⟨⟨Nat.lt_of_lt_of_le hp hk.1, r, d, ?_, ?_, hb, hd, ?_⟩, (hk.mono fun b hb => hb.1).trans (Keep.upd fun h => h.2 rfl)⟩
  · rw [upd_self, hs]
    cases bad <;> rfl
  · refine (hr.past hp upd_past).read ?_
    intro b h1 h2
    simp only [all] at h1
    exact ⟨h2, by omega, fun h => h1 (hX b h)⟩
  · intro d' h
    rw [hs] at h
    cases bad
    · simpa using h
    · cases h
theorem Tk.spoil {H1 : Heap} {w : Value} {d : List Nat} (hp : p < H.n) (hk : Keep (all H) H H1) (hw : Sl (off X p H) H 1 w d.length (B d)) (hd : ∀ x ∈ d, x < 256) (hb : d.length ≤ mostBytes) :
    Tk X p (H1.upd p (some ⟨[w, .bool true], 1, true⟩)) none ∧ Keep (fun b => b < H.n ∧ b ≠ p) H (H1.upd p (some ⟨[w, .bool true], 1, true⟩)) := by
  refine ⟨⟨Nat.lt_of_lt_of_le hp hk.1, w, d, ?_, ?_, hb, hd, fun _ h => by cases h⟩, (hk.mono fun b hb => hb.1).trans (Keep.upd fun h => h.2 rfl)⟩
  · rw [upd_self]; rfl
  · have h1 : Sl (off X p H) H1 1 w d.length (B d) := hw.keep (hk.mono fun b hb => hb.1)
    have h2 : Sl (off X p H) (H1.upd p (some ⟨[w, .bool true], 1, true⟩)) 1 w d.length (B d) := h1.keep (Keep.upd fun h => h.2.1 rfl)
    exact h2.mono fun b hb => ⟨Nat.lt_of_lt_of_le hb.1 hk.1, hb.2⟩
theorem Tk.keep {H' : Heap} {s : Option (List Nat)} (h : Tk X p H s) (hp : ¬ X p) (hk : Keep (fun b => b < H.n ∧ ¬ X b) H H') : Tk X p H' s := by
  obtain ⟨h1, w, d, h2, h3, h4, h5, h6⟩ := h
  refine ⟨Nat.lt_of_lt_of_le h1 hk.1, w, d, by rw [hk.2 p ⟨h1, hp⟩]; exact h2, ?_, h4, h5, h6⟩
  exact (h3.keep (hk.mono fun b hb => ⟨hb.1, hb.2.2⟩)).mono fun b hb => ⟨Nat.lt_of_lt_of_le hb.1 hk.1, hb.2⟩
theorem Tk.more {Y : Nat → Prop} {s : Option (List Nat)} (h : Tk X p H s) (hY : ∀ b, Y b → b < H.n → X b) : Tk Y p H s := by
  obtain ⟨h1, w, d, h2, h3, h4, h5, h6⟩ := h
  exact ⟨h1, w, d, h2, h3.mono fun b hb => ⟨hb.1, hb.2.1, fun h => hb.2.2 (hY b h hb.1)⟩, h4, h5, h6⟩
theorem Tk.all {s : Option (List Nat)} (h : Tk X p H s) : Box (all H) H p [(h.2.choose), .bool s.isNone] := ⟨h.1, 1, true, h.2.choose_spec.choose_spec.1⟩
end
theorem callV0 {C : CallF} {g : FuncId} {w : Value} {H : Heap} : callV C (.func (.func g) #[] #[]) [w] H = C g [w] H := nr _
theorem callV1 {C : CallF} {g : FuncId} {w c : Value} {H : Heap} : callV C (.func (.func g) #[] #[c]) [w] H = C g [w, c] H := nr _

theorem tkput {p : Nat} {H1 : Heap} {w r : Value} {b b' : Bool} (h : H1.get p = some ⟨[w, .bool b], 1, true⟩) (hr : oneC r = true ∧ r.cells = #[r]) :
    stV 1 (ptr p 0) r H1 = some (undef, H1.upd p (some ⟨[r, .bool b], 1, true⟩)) ∧ stV 1 (ptr p 1) (.bool b') (H1.upd p (some ⟨[r, .bool b], 1, true⟩)) = some (undef, H1.upd p (some ⟨[r, .bool b'], 1, true⟩)) ∧ stV 1 (ptr p 1) (.bool b') H1 = some (undef, H1.upd p (some ⟨[w, .bool b'], 1, true⟩)) := by
  refine ⟨stV1_box h (by simp) hr.2 hr.1, ?_, stV1_box h (by simp) rfl rfl⟩
  rw [stV1_box upd_self (by simp) rfl rfl, upd_upd]
  rfl

theorem number_ok {X : Nat → Prop} {p : Nat} {H : Heap} {s : Option (List Nat)} (h : Tk X p H s) (hX : ∀ b, X b → b < H.n) :
    ∃ H', Cl 35 [ptr p 0] H (.int .i64 (sN s).1) H' ∧ Tk X p H' (sN s).2 ∧ Keep (fun b => b < H.n ∧ b ≠ p) H H' := by
  have h' := h
  obtain ⟨hp, w, d, h2, h3, h4, h5, h6⟩ := h
  have hb : Box (all H) H p [w, .bool s.isNone] := ⟨hp, 1, true, h2⟩
  cases s with
  | none =>
    refine ⟨H, ?_, h', Keep.refl _ _⟩
    have hc : Cl 51 [ptr p 0, .func (.func 52) #[] #[]] H (.int .i64 0) H := by
      refine Ev.enter (fun n => f51_eq rfl n _ _ _) ?_
      simp only [f51, real_b, real_i, real_c, chk_t, bnd_some, bnd_up, iff_t, iff_f, gd_t, gd_f, wd_b, wd_u, pick_t, pick_f, b_lss, b_leq, b_gtr, b_geq, b_eql, b_neq, b_seql, b_sneq, b_add, b_sub, u_not, nilC_ptr, fAddr_ptr, Nat.zero_add, extr0, extr1, extr2, lenStr, decide_true, decide_false, bt_tt, bt_tf, bt_ft, bt_ff, bt_bne, Bool.not_true, Bool.not_false, Int.reduceBEq, Int.reduceBNe, extr30, extr31, hb.ld (k := 1) (v := .bool true) rfl]
      exact Ev.pure _
    refine Ev.enter (fun n => f35_eq rfl n _ _) ?_
    simp only [f35, real_b, real_i, real_c]
    refine Ev.callC hc ?_
    exact Ev.pure _
  | some d' =>
    obtain rfl := h6 d' rfl
    obtain ⟨r, H1, g1, g2, g3⟩ := taken_ok (h3.mono fun b hb => hb.1) h5 h4
    have hb1 := hb.keep g3
    obtain ⟨s1, s2, _⟩ := tkput (b' := (tN d).2.2 != 0) (show H1.get p = some ⟨[w, .bool false], 1, true⟩ by rw [g3.2 p hp]; exact h2) g2.oneC
    have hput := Tk.put (X := X) (s := (sN (some d)).2) (bad := (tN d).2.2 != 0) hp hX g3 g2 (tN_byte h5) (Nat.le_trans (tN_len d) h4) (by
      simp only [sN]
      by_cases h0 : (tN d).2.2 = 0 <;> simp [h0])
    refine ⟨_, ?_, hput⟩
    have hc : Cl 51 [ptr p 0, .func (.func 52) #[] #[]] H (.int .i64 (sN (some d)).1) (H1.upd p (some ⟨[r, .bool ((tN d).2.2 != 0)], 1, true⟩)) := by
      refine Ev.enter (fun n => f51_eq rfl n _ _ _) ?_
      simp only [f51, real_b, real_i, real_c, chk_t, bnd_some, bnd_up, iff_t, iff_f, gd_t, gd_f, wd_b, wd_u, pick_t, pick_f, b_lss, b_leq, b_gtr, b_geq, b_eql, b_neq, b_seql, b_sneq, b_add, b_sub, u_not, nilC_ptr, fAddr_ptr, Nat.zero_add, extr0, extr1, extr2, lenStr, decide_true, decide_false, bt_tt, bt_tf, bt_ft, bt_ff, bt_bne, Bool.not_true, Bool.not_false, Int.reduceBEq, Int.reduceBNe, extr30, extr31, hb.ld (k := 1) (v := .bool false) rfl, hb.ld (k := 0) (v := w) rfl, callV0]
      refine Ev.callC g1 ?_
      simp only [real_b, real_i, real_c, chk_t, bnd_some, bnd_up, iff_t, iff_f, gd_t, gd_f, wd_b, wd_u, pick_t, pick_f, b_lss, b_leq, b_gtr, b_geq, b_eql, b_neq, b_seql, b_sneq, b_add, b_sub, u_not, nilC_ptr, fAddr_ptr, Nat.zero_add, extr0, extr1, extr2, lenStr, decide_true, decide_false, bt_tt, bt_tf, bt_ft, bt_ff, bt_bne, Bool.not_true, Bool.not_false, Int.reduceBEq, Int.reduceBNe, extr30, extr31, s1, s2]
      exact Ev.pure _
    refine Ev.enter (fun n => f35_eq rfl n _ _) ?_
    simp only [f35, real_b, real_i, real_c]
    refine Ev.callC hc ?_
    exact Ev.pure _
theorem text1_ok {X : Nat → Prop} {p m : Nat} {H : Heap} {s : Option (List Nat)} (h : Tk X p H s) (hX : ∀ b, X b → b < H.n) :
    ∃ v H', Cl 36 [ptr p 0, .int .i64 (m : Int)] H v H' ∧ Acc (all H) H' 1 v (sT m s).1.length (B (sT m s).1) ∧ Tk X p H' (sT m s).2 ∧ Keep (fun b => b < H.n ∧ b ≠ p) H H' := by
  have h0 := h
  have k1 : Keep (all H) H (H.push ⟨[.int .i64 (m : Int)], 1, true⟩) := push_keep
  have hq : Box (all (H.push ⟨[.int .i64 (m : Int)], 1, true⟩)) (H.push ⟨[.int .i64 (m : Int)], 1, true⟩) H.n [.int .i64 (m : Int)] := push_boxA
  have hnew : newV (Value.cells (.int .i64 (m : Int))).toList H = some (ptr H.n 0, H.push ⟨[.int .i64 (m : Int)], 1, true⟩) := rfl
  have hX1 : ∀ b, X b → b < (H.push ⟨[.int .i64 (m : Int)], 1, true⟩).n := fun b hb => Nat.lt_succ_of_lt (hX b hb)
  generalize hH1 : H.push ⟨[.int .i64 (m : Int)], 1, true⟩ = H1 at *
  obtain ⟨hp0, w, d, h2, h3, h4, h5, h6⟩ := h
  have hp : p < H1.n := Nat.lt_of_lt_of_le hp0 k1.1
  have h2' : H1.get p = some ⟨[w, .bool s.isNone], 1, true⟩ := by rw [k1.2 p hp0]; exact h2
  have hb : Box (all H1) H1 p [w, .bool s.isNone] := ⟨hp, 1, true, h2'⟩
  have h3' : Sl (off X p H1) H1 1 w d.length (B d) := (h3.keep (k1.mono fun b hb => hb.1)).mono fun b hb => ⟨Nat.lt_of_lt_of_le hb.1 k1.1, hb.2⟩
  have hmm : mostBytes = 140737488355328 := rfl
  cases s with
  | none =>
    have hc : Cl 54 [ptr p 0, .func (.func 55) #[] #[ptr H.n 0]] H1 (.slice none 0 0) H1 := by
      refine Ev.enter (fun n => f54_eq rfl n _ _ _) ?_
      simp only [f54, real_b, real_i, real_c, chk_t, bnd_some, bnd_up, iff_t, iff_f, gd_t, gd_f, wd_b, wd_u, pick_t, pick_f, b_lss, b_leq, b_gtr, b_geq, b_eql, b_neq, b_seql, b_sneq, b_add, b_sub, u_not, nilC_ptr, fAddr_ptr, Nat.zero_add, extr0, extr1, extr2, lenStr, decide_true, decide_false, bt_tt, bt_tf, bt_ft, bt_ff, bt_bne, Bool.not_true, Bool.not_false, Int.reduceBEq, Int.reduceBNe, extr30, extr31, hb.ld (k := 1) (v := .bool true) rfl]
      exact Ev.pure _
    obtain ⟨v, H2, c1, c2, c3⟩ := bclone_ok (H := H1) (v := .slice none 0 0) (d := []) Sl.nil (by simp)
    have hT : Tk X p H1 none := ⟨hp, w, d, h2', h3', h4, h5, fun _ h => by cases h⟩
    obtain ⟨_, w', d', e2, e3, e4, e5, e6⟩ := hT
    refine ⟨v, H2, ?_, c2.low (upA k1), ⟨Nat.lt_of_lt_of_le hp c3.1, w', d', by rw [c3.2 p hp]; exact e2, (e3.keep (c3.mono fun b hb => hb.1)).mono fun b hb => ⟨Nat.lt_of_lt_of_le hb.1 c3.1, hb.2⟩, e4, e5, e6⟩, (k1.tr c3).mono fun b hb => hb.1⟩
    refine Ev.enter (fun n => f36_eq rfl n _ _ _) ?_
    simp only [f36, real_b, real_i, real_c, chk_t, bnd_some, bnd_up, iff_t, iff_f, gd_t, gd_f, wd_b, wd_u, pick_t, pick_f, b_lss, b_leq, b_gtr, b_geq, b_eql, b_neq, b_seql, b_sneq, b_add, b_sub, u_not, nilC_ptr, fAddr_ptr, Nat.zero_add, extr0, extr1, extr2, lenStr, decide_true, decide_false, bt_tt, bt_tf, bt_ft, bt_ff, bt_bne, Bool.not_true, Bool.not_false, Int.reduceBEq, Int.reduceBNe, extr30, extr31, hnew]
    refine Ev.callC hc ?_
    refine Ev.callC c1 ?_
    exact Ev.pure _
  | some d' =>
    obtain rfl := h6 d' rfl
    obtain ⟨t, r, H2, g1, g2, g2', g3⟩ := taketext_ok (m := m) (h3'.mono fun b hb => hb.1) h5 h4
    obtain ⟨s1, s2, _⟩ := tkput (b' := (tT m d).2.2 != 0) (show H2.get p = some ⟨[w, .bool false], 1, true⟩ by rw [g3.2 p hp]; exact h2') g2'.oneC
    have hlen := tT_len m d
    have hput := Tk.put (X := X) (s := (sT m (some d)).2) (bad := (tT m d).2.2 != 0) hp hX1 g3 g2' (tT_byte h5).2 (Nat.le_trans hlen.1 h4) (by
      simp only [sT]
      by_cases h0 : (tT m d).2.2 = 0 <;> simp [h0])
    have ht : Acc (all H1) (H2.upd p (some ⟨[r, .bool ((tT m d).2.2 != 0)], 1, true⟩)) 1 t (tT m d).1.length (B (tT m d).1) := g2.past hp upd_past
    generalize hH3 : H2.upd p (some ⟨[r, .bool ((tT m d).2.2 != 0)], 1, true⟩) = H3 at *
    have h55 : Cl 55 [w, ptr H.n 0] H1 (.tuple #[t, r, .int .i64 (tT m d).2.2]) H2 := by
      refine Ev.enter (fun n => f55_eq rfl n _ _ _) ?_
      simp only [f55, real_b, real_i, real_c, chk_t, bnd_some, bnd_up, iff_t, iff_f, gd_t, gd_f, wd_b, wd_u, pick_t, pick_f, b_lss, b_leq, b_gtr, b_geq, b_eql, b_neq, b_seql, b_sneq, b_add, b_sub, u_not, nilC_ptr, fAddr_ptr, Nat.zero_add, extr0, extr1, extr2, lenStr, decide_true, decide_false, bt_tt, bt_tf, bt_ft, bt_ff, bt_bne, Bool.not_true, Bool.not_false, Int.reduceBEq, Int.reduceBNe, extr30, extr31, hq.ld (k := 0) (v := .int .i64 (m : Int)) rfl]
      refine Ev.callC g1 ?_
      simp only [real_b, real_i, real_c, chk_t, bnd_some, bnd_up, iff_t, iff_f, gd_t, gd_f, wd_b, wd_u, pick_t, pick_f, b_lss, b_leq, b_gtr, b_geq, b_eql, b_neq, b_seql, b_sneq, b_add, b_sub, u_not, nilC_ptr, fAddr_ptr, Nat.zero_add, extr0, extr1, extr2, lenStr, decide_true, decide_false, bt_tt, bt_tf, bt_ft, bt_ff, bt_bne, Bool.not_true, Bool.not_false, Int.reduceBEq, Int.reduceBNe, extr30, extr31]
      exact Ev.pure _
    have hc : Cl 54 [ptr p 0, .func (.func 55) #[] #[ptr H.n 0]] H1 t H3 := by
      refine Ev.enter (fun n => f54_eq rfl n _ _ _) ?_
      simp only [f54, real_b, real_i, real_c, chk_t, bnd_some, bnd_up, iff_t, iff_f, gd_t, gd_f, wd_b, wd_u, pick_t, pick_f, b_lss, b_leq, b_gtr, b_geq, b_eql, b_neq, b_seql, b_sneq, b_add, b_sub, u_not, nilC_ptr, fAddr_ptr, Nat.zero_add, extr0, extr1, extr2, lenStr, decide_true, decide_false, bt_tt, bt_tf, bt_ft, bt_ff, bt_bne, Bool.not_true, Bool.not_false, Int.reduceBEq, Int.reduceBNe, extr30, extr31, hb.ld (k := 1) (v := .bool false) rfl, hb.ld (k := 0) (v := w) rfl, callV1]
      refine Ev.callC h55 ?_
      simp only [real_b, real_i, real_c, chk_t, bnd_some, bnd_up, iff_t, iff_f, gd_t, gd_f, wd_b, wd_u, pick_t, pick_f, b_lss, b_leq, b_gtr, b_geq, b_eql, b_neq, b_seql, b_sneq, b_add, b_sub, u_not, nilC_ptr, fAddr_ptr, Nat.zero_add, extr0, extr1, extr2, lenStr, decide_true, decide_false, bt_tt, bt_tf, bt_ft, bt_ff, bt_bne, Bool.not_true, Bool.not_false, Int.reduceBEq, Int.reduceBNe, extr30, extr31, s1, s2]
      exact Ev.pure _
    obtain ⟨v, H4, c1, c2, c3⟩ := bclone_ok (H := H3) (v := t) (d := (tT m d).1) ht.sl (by omega)
    obtain ⟨⟨hp3, w', d', e2, e3, e4, e5, e6⟩, hk3⟩ := hput
    refine ⟨v, H4, ?_, c2.low (fun b hb => Nat.lt_of_lt_of_le (upA k1 b hb) hk3.1), ⟨Nat.lt_of_lt_of_le hp3 c3.1, w', d', by rw [c3.2 p hp3]; exact e2, (e3.keep (c3.mono fun b hb => hb.1)).mono fun b hb => ⟨Nat.lt_of_lt_of_le hb.1 c3.1, hb.2⟩, e4, e5, e6⟩, ?_⟩
    · refine Ev.enter (fun n => f36_eq rfl n _ _ _) ?_
      simp only [f36, real_b, real_i, real_c, chk_t, bnd_some, bnd_up, iff_t, iff_f, gd_t, gd_f, wd_b, wd_u, pick_t, pick_f, b_lss, b_leq, b_gtr, b_geq, b_eql, b_neq, b_seql, b_sneq, b_add, b_sub, u_not, nilC_ptr, fAddr_ptr, Nat.zero_add, extr0, extr1, extr2, lenStr, decide_true, decide_false, bt_tt, bt_tf, bt_ft, bt_ff, bt_bne, Bool.not_true, Bool.not_false, Int.reduceBEq, Int.reduceBNe, extr30, extr31, hnew]
      refine Ev.callC hc ?_
      refine Ev.callC c1 ?_
      exact Ev.pure _
    · exact (k1.mono fun b hb => hb.1).trans ((hk3.mono fun b hb => ⟨Nat.lt_of_lt_of_le hb.1 k1.1, hb.2⟩).trans (c3.mono fun b hb => Nat.lt_of_lt_of_le hb.1 (Nat.le_trans k1.1 hk3.1)))
theorem ends_ok {X : Nat → Prop} {p : Nat} {H : Heap} {s : Option (List Nat)} (h : Tk X p H s) : Cl 37 [ptr p 0] H (.bool (decide (s = some []))) H := by
  obtain ⟨hp, w, d, h2, h3, h4, h5, h6⟩ := h
  have hb : Box (all H) H p [w, .bool s.isNone] := ⟨hp, 1, true, h2⟩
  refine Ev.enter (fun n => f37_eq rfl n _ _) ?_
  cases s with
  | none =>
    have e : decide ((none : Option (List Nat)) = some []) = false := rfl
    simp only [f37, real_b, real_i, real_c, chk_t, bnd_some, bnd_up, iff_t, iff_f, gd_t, gd_f, wd_b, wd_u, pick_t, pick_f, b_lss, b_leq, b_gtr, b_geq, b_eql, b_neq, b_seql, b_sneq, b_add, b_sub, u_not, nilC_ptr, fAddr_ptr, Nat.zero_add, extr0, extr1, extr2, lenStr, decide_true, decide_false, bt_tt, bt_tf, bt_ft, bt_ff, bt_bne, Bool.not_true, Bool.not_false, Int.reduceBEq, Int.reduceBNe, extr30, extr31, hb.ld (k := 1) (v := .bool true) rfl, e]
    exact Ev.pure _
  | some d' =>
    obtain rfl := h6 d' rfl
    have e : decide (some d = some []) = ((d.length : Int) == 0) := by
      cases d
      · rfl
      · simp; omega
    simp only [f37, real_b, real_i, real_c, chk_t, bnd_some, bnd_up, iff_t, iff_f, gd_t, gd_f, wd_b, wd_u, pick_t, pick_f, b_lss, b_leq, b_gtr, b_geq, b_eql, b_neq, b_seql, b_sneq, b_add, b_sub, u_not, nilC_ptr, fAddr_ptr, Nat.zero_add, extr0, extr1, extr2, lenStr, decide_true, decide_false, bt_tt, bt_tf, bt_ft, bt_ff, bt_bne, Bool.not_true, Bool.not_false, Int.reduceBEq, Int.reduceBNe, extr30, extr31, hb.ld (k := 1) (v := .bool false) rfl, hb.ld (k := 0) (v := w) rfl, h3.lenS, e]
    exact Ev.pure _

/-! ### by the reference -/
theorem rnumber1_ok {X : Nat → Prop} {p : Nat} {H : Heap} {s : Option (List Nat)} (h : Tk X p H s) (hX : ∀ b, X b → b < H.n) :
    ∃ H', Cl 38 [ptr p 0] H (.int .i64 (sN s).1) H' ∧ Tk X p H' (sN s).2 ∧ Keep (fun b => b < H.n ∧ b ≠ p) H H' := by
  have h' := h
  obtain ⟨hp, w, d, h2, h3, h4, h5, h6⟩ := h
  have hb : Box (all H) H p [w, .bool s.isNone] := ⟨hp, 1, true, h2⟩
  obtain ⟨r, H1, g1, g2, g3⟩ := rtaken_ok (h3.mono fun b hb => hb.1) h5 h4
  have hb1 := hb.keep g3
  obtain ⟨s1, _, s3⟩ := tkput (b := s.isNone) (b' := true) (show H1.get p = some ⟨[w, .bool s.isNone], 1, true⟩ by rw [g3.2 p hp]; exact h2) g2.oneC
  have hspoil := Tk.spoil (X := X) hp g3 h3 h5 h4
  cases s with
  | none =>
    refine ⟨_, ?_, hspoil⟩
    refine Ev.enter (fun n => f38_eq rfl n _ _) ?_
    simp only [f38, real_b, real_i, real_c, chk_t, bnd_some, bnd_up, iff_t, iff_f, gd_t, gd_f, wd_b, wd_u, pick_t, pick_f, b_lss, b_leq, b_gtr, b_geq, b_eql, b_neq, b_seql, b_sneq, b_add, b_sub, u_not, nilC_ptr, fAddr_ptr, Nat.zero_add, extr0, extr1, extr2, lenStr, decide_true, decide_false, bt_tt, bt_tf, bt_ft, bt_ff, bt_bne, Bool.not_true, Bool.not_false, Int.reduceBEq, Int.reduceBNe, extr30, extr31, hb.ld (k := 0) (v := w) rfl]
    refine Ev.callC g1 ?_
    simp only [real_b, real_i, real_c, chk_t, bnd_some, bnd_up, iff_t, iff_f, gd_t, gd_f, wd_b, wd_u, pick_t, pick_f, b_lss, b_leq, b_gtr, b_geq, b_eql, b_neq, b_seql, b_sneq, b_add, b_sub, u_not, nilC_ptr, fAddr_ptr, Nat.zero_add, extr0, extr1, extr2, lenStr, decide_true, decide_false, bt_tt, bt_tf, bt_ft, bt_ff, bt_bne, Bool.not_true, Bool.not_false, Int.reduceBEq, Int.reduceBNe, extr30, extr31, hb1.ld (k := 1) (v := .bool true) rfl, s3]
    exact Ev.pure _
  | some d' =>
    obtain rfl := h6 d' rfl
    by_cases h0 : (tN d).2.2 = 0
    · have hput := Tk.put (X := X) (s := (sN (some d)).2) (bad := false) hp hX g3 g2 (tN_byte h5) (Nat.le_trans (tN_len d) h4) (by simp [sN, h0])
      refine ⟨_, ?_, hput⟩
      refine Ev.enter (fun n => f38_eq rfl n _ _) ?_
      simp only [f38, real_b, real_i, real_c, chk_t, bnd_some, bnd_up, iff_t, iff_f, gd_t, gd_f, wd_b, wd_u, pick_t, pick_f, b_lss, b_leq, b_gtr, b_geq, b_eql, b_neq, b_seql, b_sneq, b_add, b_sub, u_not, nilC_ptr, fAddr_ptr, Nat.zero_add, extr0, extr1, extr2, lenStr, decide_true, decide_false, bt_tt, bt_tf, bt_ft, bt_ff, bt_bne, Bool.not_true, Bool.not_false, Int.reduceBEq, Int.reduceBNe, extr30, extr31, hb.ld (k := 0) (v := w) rfl]
      refine Ev.callC g1 ?_
      simp only [Option.isNone_some] at s1
      simp only [real_b, real_i, real_c, chk_t, bnd_some, bnd_up, iff_t, iff_f, gd_t, gd_f, wd_b, wd_u, pick_t, pick_f, b_lss, b_leq, b_gtr, b_geq, b_eql, b_neq, b_seql, b_sneq, b_add, b_sub, u_not, nilC_ptr, fAddr_ptr, Nat.zero_add, extr0, extr1, extr2, lenStr, decide_true, decide_false, bt_tt, bt_tf, bt_ft, bt_ff, bt_bne, Bool.not_true, Bool.not_false, Int.reduceBEq, Int.reduceBNe, extr30, extr31, hb1.ld (k := 1) (v := .bool false) rfl, h0, s1]
      exact Ev.pure _
    · have e : ((tN d).2.2 != 0) = true := by simpa using h0
      have hs : sN (some d) = (0, none) := by
        rcases tN_say d with ht | ht
        · exact absurd ht.1 h0
        · simp [sN, h0, ht.1]
      rw [hs]
      refine ⟨_, ?_, hspoil⟩
      refine Ev.enter (fun n => f38_eq rfl n _ _) ?_
      simp only [f38, real_b, real_i, real_c, chk_t, bnd_some, bnd_up, iff_t, iff_f, gd_t, gd_f, wd_b, wd_u, pick_t, pick_f, b_lss, b_leq, b_gtr, b_geq, b_eql, b_neq, b_seql, b_sneq, b_add, b_sub, u_not, nilC_ptr, fAddr_ptr, Nat.zero_add, extr0, extr1, extr2, lenStr, decide_true, decide_false, bt_tt, bt_tf, bt_ft, bt_ff, bt_bne, Bool.not_true, Bool.not_false, Int.reduceBEq, Int.reduceBNe, extr30, extr31, hb.ld (k := 0) (v := w) rfl]
      refine Ev.callC g1 ?_
      simp only [real_b, real_i, real_c, chk_t, bnd_some, bnd_up, iff_t, iff_f, gd_t, gd_f, wd_b, wd_u, pick_t, pick_f, b_lss, b_leq, b_gtr, b_geq, b_eql, b_neq, b_seql, b_sneq, b_add, b_sub, u_not, nilC_ptr, fAddr_ptr, Nat.zero_add, extr0, extr1, extr2, lenStr, decide_true, decide_false, bt_tt, bt_tf, bt_ft, bt_ff, bt_bne, Bool.not_true, Bool.not_false, Int.reduceBEq, Int.reduceBNe, extr30, extr31, hb1.ld (k := 1) (v := .bool false) rfl, e, s3]
      exact Ev.pure _
theorem rtext1_ok {X : Nat → Prop} {p m : Nat} {H : Heap} {s : Option (List Nat)} (h : Tk X p H s) (hX : ∀ b, X b → b < H.n) :
    ∃ v H', Cl 39 [ptr p 0, .int .i64 (m : Int)] H v H' ∧ Acc (all H) H' 1 v (sT m s).1.length (B (sT m s).1) ∧ Tk X p H' (sT m s).2 ∧ Keep (fun b => b < H.n ∧ b ≠ p) H H' := by
  have h' := h
  obtain ⟨hp, w, d, h2, h3, h4, h5, h6⟩ := h
  have hb : Box (all H) H p [w, .bool s.isNone] := ⟨hp, 1, true, h2⟩
  obtain ⟨t, r, H1, g1, g2, g2', g3⟩ := rtaketext_ok (m := m) (h3.mono fun b hb => hb.1) h5 h4
  have hb1 := hb.keep g3
  obtain ⟨s1, _, s3⟩ := tkput (b := s.isNone) (b' := true) (show H1.get p = some ⟨[w, .bool s.isNone], 1, true⟩ by rw [g3.2 p hp]; exact h2) g2'.oneC
  have hspoil := Tk.spoil (X := X) hp g3 h3 h5 h4
  have hlen := tT_len m d
  cases s with
  | none =>
    refine ⟨nilS, _, ?_, Acc.nil, hspoil⟩
    refine Ev.enter (fun n => f39_eq rfl n _ _ _) ?_
    simp only [f39, real_b, real_i, real_c, chk_t, bnd_some, bnd_up, iff_t, iff_f, gd_t, gd_f, wd_b, wd_u, pick_t, pick_f, b_lss, b_leq, b_gtr, b_geq, b_eql, b_neq, b_seql, b_sneq, b_add, b_sub, u_not, nilC_ptr, fAddr_ptr, Nat.zero_add, extr0, extr1, extr2, lenStr, decide_true, decide_false, bt_tt, bt_tf, bt_ft, bt_ff, bt_bne, Bool.not_true, Bool.not_false, Int.reduceBEq, Int.reduceBNe, extr30, extr31, hb.ld (k := 0) (v := w) rfl]
    refine Ev.callC g1 ?_
    simp only [real_b, real_i, real_c, chk_t, bnd_some, bnd_up, iff_t, iff_f, gd_t, gd_f, wd_b, wd_u, pick_t, pick_f, b_lss, b_leq, b_gtr, b_geq, b_eql, b_neq, b_seql, b_sneq, b_add, b_sub, u_not, nilC_ptr, fAddr_ptr, Nat.zero_add, extr0, extr1, extr2, lenStr, decide_true, decide_false, bt_tt, bt_tf, bt_ft, bt_ff, bt_bne, Bool.not_true, Bool.not_false, Int.reduceBEq, Int.reduceBNe, extr30, extr31, hb1.ld (k := 1) (v := .bool true) rfl, s3]
    exact Ev.pure _
  | some d' =>
    obtain rfl := h6 d' rfl
    by_cases h0 : (tT m d).2.2 = 0
    · have hput := Tk.put (X := X) (s := (sT m (some d)).2) (bad := false) hp hX g3 g2' (tT_byte h5).2 (Nat.le_trans hlen.1 h4) (by simp [sT, h0])
      have ht : Acc (all H) (H1.upd p (some ⟨[r, .bool false], 1, true⟩)) 1 t (tT m d).1.length (B (tT m d).1) := g2.past hp upd_past
      generalize hH3 : H1.upd p (some ⟨[r, .bool false], 1, true⟩) = H3 at *
      obtain ⟨v, H4, a1, a2, a3⟩ := (Acc.nil (R := all H3) (H := H3) (sz := 1)).app (by_ := 1) (Rb.all H3) ht.sl.addend ht.len (by omega)
      rw [Nat.zero_add, List.nil_append] at a2
      obtain ⟨⟨hp3, w', d', e2, e3, e4, e5, e6⟩, hk3⟩ := hput
      refine ⟨v, H4, ?_, a2.low (fun b hb => Nat.lt_of_lt_of_le hb hk3.1), ⟨Nat.lt_of_lt_of_le hp3 a3.1, w', d', by rw [a3.2 p hp3]; exact e2, (e3.keep (a3.mono fun b hb => hb.1)).mono fun b hb => ⟨Nat.lt_of_lt_of_le hb.1 a3.1, hb.2⟩, e4, e5, e6⟩, ?_⟩
      · refine Ev.enter (fun n => f39_eq rfl n _ _ _) ?_
        simp only [f39, real_b, real_i, real_c, chk_t, bnd_some, bnd_up, iff_t, iff_f, gd_t, gd_f, wd_b, wd_u, pick_t, pick_f, b_lss, b_leq, b_gtr, b_geq, b_eql, b_neq, b_seql, b_sneq, b_add, b_sub, u_not, nilC_ptr, fAddr_ptr, Nat.zero_add, extr0, extr1, extr2, lenStr, decide_true, decide_false, bt_tt, bt_tf, bt_ft, bt_ff, bt_bne, Bool.not_true, Bool.not_false, Int.reduceBEq, Int.reduceBNe, extr30, extr31, hb.ld (k := 0) (v := w) rfl]
        refine Ev.callC g1 ?_
        simp only [Option.isNone_some] at s1
        simp only [real_b, real_i, real_c, chk_t, bnd_some, bnd_up, iff_t, iff_f, gd_t, gd_f, wd_b, wd_u, pick_t, pick_f, b_lss, b_leq, b_gtr, b_geq, b_eql, b_neq, b_seql, b_sneq, b_add, b_sub, u_not, nilC_ptr, fAddr_ptr, Nat.zero_add, extr0, extr1, extr2, lenStr, decide_true, decide_false, bt_tt, bt_tf, bt_ft, bt_ff, bt_bne, Bool.not_true, Bool.not_false, Int.reduceBEq, Int.reduceBNe, extr30, extr31, hb1.ld (k := 1) (v := .bool false) rfl, h0, s1, hH3, a1]
        exact Ev.pure _
      · exact hk3.trans (a3.mono fun b hb => Nat.lt_of_lt_of_le hb.1 hk3.1)
    · have e : ((tT m d).2.2 != 0) = true := by simpa using h0
      have hs : sT m (some d) = ([], none) := by
        have : (tT m d).1 = [] := by
          revert h0
          unfold tT
          split
          · simp
          · split
            · simp
            · split
              · simp
              · simp
        simp [sT, h0, this]
      rw [hs]
      refine ⟨nilS, _, ?_, Acc.nil, hspoil⟩
      refine Ev.enter (fun n => f39_eq rfl n _ _ _) ?_
      simp only [f39, real_b, real_i, real_c, chk_t, bnd_some, bnd_up, iff_t, iff_f, gd_t, gd_f, wd_b, wd_u, pick_t, pick_f, b_lss, b_leq, b_gtr, b_geq, b_eql, b_neq, b_seql, b_sneq, b_add, b_sub, u_not, nilC_ptr, fAddr_ptr, Nat.zero_add, extr0, extr1, extr2, lenStr, decide_true, decide_false, bt_tt, bt_tf, bt_ft, bt_ff, bt_bne, Bool.not_true, Bool.not_false, Int.reduceBEq, Int.reduceBNe, extr30, extr31, hb.ld (k := 0) (v := w) rfl]
      refine Ev.callC g1 ?_
      simp only [real_b, real_i, real_c, chk_t, bnd_some, bnd_up, iff_t, iff_f, gd_t, gd_f, wd_b, wd_u, pick_t, pick_f, b_lss, b_leq, b_gtr, b_geq, b_eql, b_neq, b_seql, b_sneq, b_add, b_sub, u_not, nilC_ptr, fAddr_ptr, Nat.zero_add, extr0, extr1, extr2, lenStr, decide_true, decide_false, bt_tt, bt_tf, bt_ft, bt_ff, bt_bne, Bool.not_true, Bool.not_false, Int.reduceBEq, Int.reduceBNe, extr30, extr31, hb1.ld (k := 1) (v := .bool false) rfl, e, s3]
      exact Ev.pure _
end Go.Eng
