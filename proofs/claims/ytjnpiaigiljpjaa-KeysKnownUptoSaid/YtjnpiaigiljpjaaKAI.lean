import Derived.Test.YtjnpiaigiljpjaaKZ
import Derived.Test.YtjnpiaigiljpjaaKJ
/- KeysKnown: its first and its last loop. -/
set_option linter.unusedVariables false
set_option linter.unusedSimpArgs false
namespace Go.Eng
open Go Go.Proofs

def U (l : List UInt8) : List Nat := l.map UInt8.toNat
theorem U_len (l : List UInt8) : (U l).length = l.length := by simp [U]
theorem U_byte (l : List UInt8) : ∀ x ∈ U l, x < 256 := fun x hx => by
  simp only [U, List.mem_map] at hx
  obtain ⟨c, _, rfl⟩ := hx
  exact c.toNat_lt
theorem ofStr_ok {l : List UInt8} {H : Heap} (h : l.length ≤ mostBytes) : ofStr (.string (bs l)) H = some (.slice (some ⟨H.n, 0, none⟩) (U l).length (U l).length, H.push ⟨B (U l), 1, true⟩) := by
  have e : ((bs l).data.toList.map fun c => Value.int .u8 (c.toNat : Int)) = B (U l) := by
    rw [bs_list]; simp [B, U]
  simp only [ofStr, bs_size, U_len]
  rw [if_pos h, e]
theorem push_Sl {R : Nat → Prop} {H : Heap} {d : List Nat} (hR : R H.n) : Sl R (H.push ⟨B d, 1, true⟩) 1 (.slice (some ⟨H.n, 0, none⟩) d.length d.length) d.length (B d) :=
  .inr (.inr ⟨H.n, 0, none, d.length, _, rfl, hR, push_self, by simp [B_length], by simp, by simp only [cut, List.drop_zero, Nat.mul_one]; rw [List.take_of_length_le (by simp [B])]⟩)
theorem push_Ss {R : Nat → Prop} {H : Heap} {xs : List ByteArray} (hR : R H.n) : Sli R (H.push ⟨xs.map Value.string, 1, true⟩) xs (.slice (some ⟨H.n, 0, none⟩) xs.length xs.length) :=
  ⟨xs.map Value.string, .inr (.inr ⟨H.n, 0, none, xs.length, _, rfl, hR, push_self, by show 0 + xs.length * 1 ≤ (xs.map Value.string).length; simp, Nat.le_refl _, by simp only [cut, List.drop_zero]; rw [List.take_of_length_le (by simp [Rp.sz])]⟩), strs_rep xs⟩
theorem acall_ext {P : Program} {gl : Bool} {E : Ext} {f : FuncId} {fn : Func} {g : List Value → Heap → Option (Value × Heap)} (hf : P.funcs[f]? = some fn) (hn : (fn.name == "runtime.NumGoroutine") = false) (hb : fn.body.isSome = true) (h : E f = some g) (n : Nat) (args : List Value) (H : Heap) : acall P gl E (n + 1) f args H = g args H := by
  obtain ⟨c, hc⟩ := Option.isSome_iff_exists.1 hb
  unfold acall
  rw [hf]
  simp only [hn, hc, h]
theorem rep_ok {s : ByteArray} {c : Nat} (hc : c ≤ 9223372036854775807) (hl : s.size * c ≤ 140737488355328) (H : Heap) : Cl 28 [.string s, .int .i64 (c : Int)] H (.string (bs (Lib.repeatL s.data.toList c))) H := by
  refine ⟨1, fun n m hn _ => ?_⟩
  obtain ⟨k, rfl⟩ : ∃ k, n = k + 1 := ⟨n - 1, by omega⟩
  refine (acall_ext Try.func28 (by kernel_rfl) (by kernel_rfl) (g := fun args H => match args with
    | [.string s, .int .i64 c] => if 0 ≤ c ∧ c ≤ 9223372036854775807 ∧ s.size * c.toNat ≤ 140737488355328 then some (.string (bs (Lib.repeatL s.data.toList c.toNat)), H) else none
    | _ => none) rfl k _ H).trans ?_
  simp only
  rw [if_pos ⟨by omega, by omega, hl⟩]
  rfl
theorem c_str {s : ByteArray} : (Value.string s).cells = #[.string s] := rfl
theorem litS1 {H : Heap} {a : ByteArray} : bldS 1 1 [.string ⟨#[]⟩] [(0, 1, .string a)] H = some (.slice (some ⟨H.n, 0, none⟩) [a].length [a].length, H.push ⟨[a].map Value.string, 1, true⟩) := bld1 rfl rfl
theorem litS2 {H : Heap} {a b : ByteArray} : bldS 1 2 [.string ⟨#[]⟩] [(0, 1, .string a), (1, 1, .string b)] H = some (.slice (some ⟨H.n, 0, none⟩) [a, b].length [a, b].length, H.push ⟨[a, b].map Value.string, 1, true⟩) := bld2 rfl rfl rfl rfl
theorem litS3 {H : Heap} {a b c : ByteArray} : bldS 1 3 [.string ⟨#[]⟩] [(0, 1, .string a), (1, 1, .string b), (2, 1, .string c)] H = some (.slice (some ⟨H.n, 0, none⟩) [a, b, c].length [a, b, c].length, H.push ⟨[a, b, c].map Value.string, 1, true⟩) := by
  simp [bldS, rep, fillC, c_str, splice, newS]
  exact ⟨rfl, rfl, rfl⟩
theorem cv8 {a : Nat} (h : a < 256) {H : Heap} : cvI .u8 (.int .i64 (a : Int)) H = some (.int .u8 (a : Int), H) := by
  rw [cvI_u8]
  congr 3
  omega
theorem litB1 {H : Heap} {a : Nat} : bldS 1 1 [.int .u8 0] [(0, 1, .int .u8 (a : Int))] H = some (.slice (some ⟨H.n, 0, none⟩) [a].length [a].length, H.push ⟨B [a], 1, true⟩) := bld1 rfl rfl

theorem known_L2 (hg : ∀ H : Heap, ∃ H', Cl 6 [.agg #[nilS, nilS, nilS, nilS, nilS]] H (.bool true) H') : ∀ (q a : Nat) (G : Heap), a + q = 256 → ∃ H', Ev (fun n m => f9_L2 real (AC n) n m (.int .i64 (a : Int)) G) (.bool true, H') := by
  intro q
  induction q with
  | zero =>
    intro a G ha
    obtain ⟨G1, g1⟩ := hg G
    obtain ⟨G2, r2⟩ := patterns_law (a := [⟨#[97]⟩, ⟨#[98]⟩]) (b := [⟨#[97, 98]⟩]) (H := (G1.push ⟨[(⟨#[97]⟩ : ByteArray), ⟨#[98]⟩].map Value.string, 1, true⟩).push ⟨[(⟨#[97, 98]⟩ : ByteArray)].map Value.string, 1, true⟩) ((push_Ss (R := all _) (by simp [all, push_n])).up push_keep) (push_Ss (R := all _) (by simp [all, push_n])) (by decide) (by decide)
    obtain ⟨G3, r3⟩ := patterns_law (a := []) (b := [⟨#[]⟩]) (v1 := nilS) (H := G2.push ⟨[(⟨#[]⟩ : ByteArray)].map Value.string, 1, true⟩) ⟨[], Sl.nil, .nil⟩ (push_Ss (R := all _) (by simp [all, push_n])) (by decide) (by decide)
    refine ⟨G3, ?_⟩
    refine Ev.step (fun n m => f9_L2.eq_2 _ _ _ _ _ _) ?_
    have e : ((a : Int) < 256) = False := by simp; omega
    simp only [real_b, real_i, real_c, chk_t, bnd_some, bnd_up, iff_t, iff_f, gd_t, gd_f, wd_b, wd_u, pick_t, pick_f, b_lss, b_leq, b_gtr, b_geq, b_eql, b_neq, b_seql, b_sneq, b_add, b_sub, u_not, nilC_ptr, fAddr_ptr, Nat.zero_add, extr0, extr1, extr2, lenStr, decide_true, decide_false, bt_tt, bt_tf, bt_ft, bt_ff, bt_bne, Bool.not_true, Bool.not_false, Int.reduceBEq, Int.reduceBNe, e]
    refine Ev.callC (awake_ok _) ?_
    simp only [real_b, real_i, real_c, chk_t, bnd_some, bnd_up, iff_t, iff_f, gd_t, gd_f, wd_b, wd_u, pick_t, pick_f, b_lss, b_leq, b_gtr, b_geq, b_eql, b_neq, b_seql, b_sneq, b_add, b_sub, u_not, nilC_ptr, fAddr_ptr, Nat.zero_add, extr0, extr1, extr2, lenStr, decide_true, decide_false, bt_tt, bt_tf, bt_ft, bt_ff, bt_bne, Bool.not_true, Bool.not_false, Int.reduceBEq, Int.reduceBNe, show bld [.slice none 0 0, .slice none 0 0, .slice none 0 0, .slice none 0 0, .slice none 0 0] [] G = some (.agg #[nilS, nilS, nilS, nilS, nilS], G) from rfl]
    refine Ev.callC g1 ?_
    simp only [real_b, real_i, real_c, chk_t, bnd_some, bnd_up, iff_t, iff_f, gd_t, gd_f, wd_b, wd_u, pick_t, pick_f, b_lss, b_leq, b_gtr, b_geq, b_eql, b_neq, b_seql, b_sneq, b_add, b_sub, u_not, nilC_ptr, fAddr_ptr, Nat.zero_add, extr0, extr1, extr2, lenStr, decide_true, decide_false, bt_tt, bt_tf, bt_ft, bt_ff, bt_bne, Bool.not_true, Bool.not_false, Int.reduceBEq, Int.reduceBNe, litS1, litS2]
    refine Ev.callC r2 ?_
    simp only [real_b, real_i, real_c, chk_t, bnd_some, bnd_up, iff_t, iff_f, gd_t, gd_f, wd_b, wd_u, pick_t, pick_f, b_lss, b_leq, b_gtr, b_geq, b_eql, b_neq, b_seql, b_sneq, b_add, b_sub, u_not, nilC_ptr, fAddr_ptr, Nat.zero_add, extr0, extr1, extr2, lenStr, decide_true, decide_false, bt_tt, bt_tf, bt_ft, bt_ff, bt_bne, Bool.not_true, Bool.not_false, Int.reduceBEq, Int.reduceBNe, litS1]
    refine Ev.callC r3 ?_
    exact Ev.pure _
  | succ q ih =>
    intro a G ha
    obtain ⟨G1, r1, _⟩ := files_law (d := [a]) (xs := []) (v2 := .slice none 0 0) (H := G.push ⟨B [a], 1, true⟩) (push_Sl (R := all _) (by simp [all, push_n])) (by simp; omega) ⟨[], Sl.nil, .nil⟩ (by simp) (by decide)
    obtain ⟨H', h⟩ := ih (a + 1) G1 (by omega)
    refine ⟨H', ?_⟩
    refine Ev.step (fun n m => f9_L2.eq_2 _ _ _ _ _ _) ?_
    have e : ((a : Int) < 256) = True := by simp; omega
    simp only [real_b, real_i, real_c, chk_t, bnd_some, bnd_up, iff_t, iff_f, gd_t, gd_f, wd_b, wd_u, pick_t, pick_f, b_lss, b_leq, b_gtr, b_geq, b_eql, b_neq, b_seql, b_sneq, b_add, b_sub, u_not, nilC_ptr, fAddr_ptr, Nat.zero_add, extr0, extr1, extr2, lenStr, decide_true, decide_false, bt_tt, bt_tf, bt_ft, bt_ff, bt_bne, Bool.not_true, Bool.not_false, Int.reduceBEq, Int.reduceBNe, e, cv8 (show a < 256 by omega), litB1]
    refine Ev.callC r1 ?_
    simp only [real_b, real_i, real_c, chk_t, bnd_some, bnd_up, iff_t, iff_f, gd_t, gd_f, wd_b, wd_u, pick_t, pick_f, b_lss, b_leq, b_gtr, b_geq, b_eql, b_neq, b_seql, b_sneq, b_add, b_sub, u_not, nilC_ptr, fAddr_ptr, Nat.zero_add, extr0, extr1, extr2, lenStr, decide_true, decide_false, bt_tt, bt_tf, bt_ft, bt_ff, bt_bne, Bool.not_true, Bool.not_false, Int.reduceBEq, Int.reduceBNe, idx_up (show a < 9223372036854775807 by omega)]
    exact h
end Go.Eng

/- KeysKnown: its first loop. -/
set_option linter.unusedVariables false
set_option linter.unusedSimpArgs false
namespace Go.Eng
open Go Go.Proofs

theorem Sl.at1k {R : Nat → Prop} {H : Heap} {n : Nat} {v : Value} {cs : List Value} (h : Sl R H 1 v n cs) {i : Nat} {x : Value} (hx : cs[i]? = some x) : ∃ p, iAddrS 1 v (.int .i64 i) = some p ∧ ∀ H', Keep R H H' → ldC p H' = some (x, H') := by
  obtain ⟨p, p1, p2⟩ := h.at1 hx
  refine ⟨p, p1, fun H' hk => ?_⟩
  obtain ⟨p', q1, q2⟩ := (h.keep hk).at1 hx
  rw [p1] at q1
  obtain rfl := Option.some.inj q1
  exact q2
def ends9 : List Int := [0, 1, 127, 128, 65531, 65532, 65533, 65536, 70000]
theorem ends9_at : ∀ i, i < 9 → ∃ n : Nat, ends9[i]? = some (n : Int) ∧ n ≤ 70000
  | 0, _ => ⟨0, rfl, by omega⟩
  | 1, _ => ⟨1, rfl, by omega⟩
  | 2, _ => ⟨127, rfl, by omega⟩
  | 3, _ => ⟨128, rfl, by omega⟩
  | 4, _ => ⟨65531, rfl, by omega⟩
  | 5, _ => ⟨65532, rfl, by omega⟩
  | 6, _ => ⟨65533, rfl, by omega⟩
  | 7, _ => ⟨65536, rfl, by omega⟩
  | 8, _ => ⟨70000, rfl, by omega⟩
  | n + 9, h => absurd h (by omega)
theorem I_at' {xs : List Int} {i : Nat} {x : Int} (h : xs[i]? = some x) : (I xs)[i]? = some (.int .i64 x) := by simp [I, h]
theorem lit9 {H : Heap} : bldS 1 9 [.int .i64 0] [(0, 1, .int .i64 0), (1, 1, .int .i64 1), (2, 1, .int .i64 127), (3, 1, .int .i64 128), (4, 1, .int .i64 65531), (5, 1, .int .i64 65532), (6, 1, .int .i64 65533), (7, 1, .int .i64 65536), (8, 1, .int .i64 70000)] H = some (.slice (some ⟨H.n, 0, none⟩) ends9.length ends9.length, H.push ⟨I ends9, 1, true⟩) := by
  have e : fillC (rep 9 [.int .i64 0]) [(0, 1, .int .i64 0), (1, 1, .int .i64 1), (2, 1, .int .i64 127), (3, 1, .int .i64 128), (4, 1, .int .i64 65531), (5, 1, .int .i64 65532), (6, 1, .int .i64 65533), (7, 1, .int .i64 65536), (8, 1, .int .i64 70000)] = some (I ends9) := rfl
  have hall : (I ends9).all oneC = true := rfl
  simp only [bldS, e, newS, hall, if_true]
  rfl
theorem half {e : Nat} (h : e ≤ 70000) {P : Program} {t : TypeId} : binB P .quo t (.int .i64 (e : Int)) (.int .i64 2) = some (.int .i64 ((e / 2 : Nat) : Int)) := by
  rw [b_quo (by decide), Int.tdiv_eq_ediv_of_nonneg (by omega), wrap_i64 (by omega) (by omega)]
  congr 2
theorem vol1 (a : List UInt8) : vol [bs a] = 9 + a.length := by simp [vol, bs_size]
theorem vol3 (a b c : List UInt8) : vol [bs a, bs b, bs c] = 27 + a.length + b.length + c.length := by simp [vol, bs_size]; omega
set_option maxRecDepth 4000 in
theorem known_L0 {H0 : Heap} {ll : List UInt8} {x2 : Value} (hll : ll.length = 70000) (h2 : Sl (all H0) H0 1 x2 9 (I ends9))
    (hend : ∀ G, Keep (all H0) H0 G → ∃ H', Ev (fun n _ => bnd (AC n 29 [] G) fun x H => bnd (newV [.slice none 0 0, .slice none 0 0, .slice none 0 0, .slice none 0 0, .slice none 0 0] H) fun y H => bnd (stV 5 y x H) fun _ H => f9_L1 real (AC n) n n (.string (bs ll)) y (.int .i64 0) H) (.bool true, H')) :
    ∀ (q i : Nat) (G : Heap), i + q = 9 → Keep (all H0) H0 G → ∃ H', Ev (fun n m => f9_L0 real (AC n) n m (.string (bs ll)) x2 (.int .i64 (i : Int)) G) (.bool true, H') := by
  have hmm : mostBytes = 140737488355328 := rfl
  intro q
  induction q with
  | zero =>
    intro i G hi hG
    obtain ⟨H', h⟩ := hend G hG
    refine ⟨H', ?_⟩
    refine Ev.step (fun n m => f9_L0.eq_2 _ _ _ _ _ _ _ _) ?_
    simp only [real_b, real_i, real_c, bnd_up, iff_f, b_lss, decide_false, h2.lenS, idx_ge (show 9 ≤ i by omega)]
    exact h
  | succ q ih =>
    intro i G hi hG
    obtain ⟨e, he, hle⟩ := ends9_at i (by omega)
    obtain ⟨p, p1, p2⟩ := h2.at1k (I_at' he)
    obtain ⟨f, hf, hlf⟩ := ends9_at ((i + 1) % 9) (by omega)
    obtain ⟨r, r1, r2⟩ := h2.at1k (I_at' hf)
    have tl : ∀ k, (ll.take k).length ≤ 70000 := fun k => by rw [List.length_take]; omega
    have ul : ∀ k, (U (ll.take k)).length ≤ 70000 := fun k => by rw [U_len]; exact tl k
    have s1 : slcStr (.string (bs ll)) none (some (.int .i64 (e : Int))) = some (.string (bs (ll.take e))) := bs_upto (by omega)
    have s2 : slcStr (.string (bs ll)) none (some (.int .i64 ((e / 2 : Nat) : Int))) = some (.string (bs (ll.take (e / 2)))) := bs_upto (by omega)
    have s3 : slcStr (.string (bs ll)) none (some (.int .i64 (f : Int))) = some (.string (bs (ll.take f))) := bs_upto (by omega)
    have o1 : ∀ {k : Nat} {X : Heap}, ofStr (.string (bs (ll.take k))) X = some (.slice (some ⟨X.n, 0, none⟩) (U (ll.take k)).length (U (ll.take k)).length, X.push ⟨B (U (ll.take k)), 1, true⟩) := fun {k X} => ofStr_ok (by have := tl k; omega)
    have k1 : Keep (all G) G (G.push ⟨B (U (ll.take e)), 1, true⟩) := push_keep
    have y1 : Sl (all (G.push ⟨B (U (ll.take e)), 1, true⟩)) (G.push ⟨B (U (ll.take e)), 1, true⟩) 1 (.slice (some ⟨G.n, 0, none⟩) (U (ll.take e)).length (U (ll.take e)).length) (U (ll.take e)).length (B (U (ll.take e))) := push_Sl (by simp [all, push_n])
    have hG1 := hG.tr k1
    generalize hX1 : G.push ⟨B (U (ll.take e)), 1, true⟩ = G1 at *
    have k2 : Keep (all G1) G1 (G1.push ⟨[bs (ll.take e)].map Value.string, 1, true⟩) := push_keep
    have y2 : Sli (all (G1.push ⟨[bs (ll.take e)].map Value.string, 1, true⟩)) (G1.push ⟨[bs (ll.take e)].map Value.string, 1, true⟩) [bs (ll.take e)] (.slice (some ⟨G1.n, 0, none⟩) [bs (ll.take e)].length [bs (ll.take e)].length) := push_Ss (by simp [all, push_n])
    have y1' := y1.up k2
    have hG2 := hG1.tr k2
    generalize hX2 : G1.push ⟨[bs (ll.take e)].map Value.string, 1, true⟩ = G2 at *
    obtain ⟨G3, a1, a2⟩ := files_law y1' (U_byte _) y2 (by have := ul e; omega) (by rw [vol1]; have := tl e; omega)
    have hG3 := hG2.tr a2
    have k4 : Keep (all G3) G3 (G3.push ⟨B [i], 1, true⟩) := push_keep
    have y4 : Sl (all (G3.push ⟨B [i], 1, true⟩)) (G3.push ⟨B [i], 1, true⟩) 1 (.slice (some ⟨G3.n, 0, none⟩) [i].length [i].length) [i].length (B [i]) := push_Sl (by simp [all, push_n])
    have hG4 := hG3.tr k4
    generalize hX4 : G3.push ⟨B [i], 1, true⟩ = G4 at *
    have k5 : Keep (all G4) G4 (G4.push ⟨[bs (ll.take (e / 2)), bs [], bs (ll.take (e / 2))].map Value.string, 1, true⟩) := push_keep
    have y5 : Sli (all (G4.push ⟨[bs (ll.take (e / 2)), bs [], bs (ll.take (e / 2))].map Value.string, 1, true⟩)) (G4.push ⟨[bs (ll.take (e / 2)), bs [], bs (ll.take (e / 2))].map Value.string, 1, true⟩) [bs (ll.take (e / 2)), bs [], bs (ll.take (e / 2))] (.slice (some ⟨G4.n, 0, none⟩) [bs (ll.take (e / 2)), bs [], bs (ll.take (e / 2))].length [bs (ll.take (e / 2)), bs [], bs (ll.take (e / 2))].length) := push_Ss (by simp [all, push_n])
    have y4' := y4.up k5
    have hG5 := hG4.tr k5
    have lit3 : bldS 1 3 [.string ⟨#[]⟩] [(0, 1, .string (bs (ll.take (e / 2)))), (1, 1, .string ⟨#[]⟩), (2, 1, .string (bs (ll.take (e / 2))))] G4 = some (.slice (some ⟨G4.n, 0, none⟩) [bs (ll.take (e / 2)), bs [], bs (ll.take (e / 2))].length [bs (ll.take (e / 2)), bs [], bs (ll.take (e / 2))].length, G4.push ⟨[bs (ll.take (e / 2)), bs [], bs (ll.take (e / 2))].map Value.string, 1, true⟩) := litS3 (H := G4) (a := bs (ll.take (e / 2))) (b := bs []) (c := bs (ll.take (e / 2)))
    generalize hX5 : G4.push ⟨[bs (ll.take (e / 2)), bs [], bs (ll.take (e / 2))].map Value.string, 1, true⟩ = G5 at *
    obtain ⟨G6, b1, b2⟩ := files_law y4' (by simp; omega) y5 (by simp) (by rw [vol3]; have := tl (e / 2); simp only [List.length_nil]; omega)
    have hG6 := hG5.tr b2
    have k7 : Keep (all G6) G6 (G6.push ⟨B (U (ll.take e)), 1, true⟩) := push_keep
    have y7 : Sl (all (G6.push ⟨B (U (ll.take e)), 1, true⟩)) (G6.push ⟨B (U (ll.take e)), 1, true⟩) 1 (.slice (some ⟨G6.n, 0, none⟩) (U (ll.take e)).length (U (ll.take e)).length) (U (ll.take e)).length (B (U (ll.take e))) := push_Sl (by simp [all, push_n])
    have hG7 := hG6.tr k7
    generalize hX7 : G6.push ⟨B (U (ll.take e)), 1, true⟩ = G7 at *
    have k8 : Keep (all G7) G7 (G7.push ⟨B (U (ll.take f)), 1, true⟩) := push_keep
    have y8 : Sl (all (G7.push ⟨B (U (ll.take f)), 1, true⟩)) (G7.push ⟨B (U (ll.take f)), 1, true⟩) 1 (.slice (some ⟨G7.n, 0, none⟩) (U (ll.take f)).length (U (ll.take f)).length) (U (ll.take f)).length (B (U (ll.take f))) := push_Sl (by simp [all, push_n])
    have y7' := y7.up k8
    have hG8 := hG7.tr k8
    generalize hX8 : G7.push ⟨B (U (ll.take f)), 1, true⟩ = G8 at *
    obtain ⟨G9, c1, c2⟩ := bytes_law y7' y8 (U_byte _) (U_byte _) (by have := ul e; omega) (by have := ul f; omega)
    obtain ⟨H', h⟩ := ih (i + 1) G9 (by omega) (hG8.tr c2)
    refine ⟨H', ?_⟩
    have eadd : IntKind.i64.wrap ((i : Int) + 1) = ((i + 1 : Nat) : Int) := idx_up (by omega)
    have erem : binB Try.prog .rem 3 (.int .i64 ((i + 1 : Nat) : Int)) (.int .i64 9) = some (.int .i64 (((i + 1) % 9 : Nat) : Int)) := by
      rw [b_rem (by decide), Int.tmod_eq_emod_of_nonneg (by omega)]
      congr 2
    refine Ev.step (fun n m => f9_L0.eq_2 _ _ _ _ _ _ _ _) ?_
    simp only [real_b, real_i, real_c, chk_t, bnd_some, bnd_up, iff_t, iff_f, gd_t, gd_f, wd_b, wd_u, pick_t, pick_f, b_lss, b_leq, b_gtr, b_geq, b_eql, b_neq, b_seql, b_sneq, b_add, b_sub, u_not, nilC_ptr, fAddr_ptr, Nat.zero_add, extr0, extr1, extr2, lenStr, decide_true, decide_false, bt_tt, bt_tf, bt_ft, bt_ff, bt_bne, Bool.not_true, Bool.not_false, Int.reduceBEq, Int.reduceBNe, h2.lenS, idx_lt (show i < 9 by omega), p1, p2 G hG, s1, o1, hX1, p2 G1 hG1, litS1, hX2]
    refine Ev.callC a1 ?_
    simp only [real_b, real_i, real_c, chk_t, bnd_some, bnd_up, iff_t, iff_f, gd_t, gd_f, wd_b, wd_u, pick_t, pick_f, b_lss, b_leq, b_gtr, b_geq, b_eql, b_neq, b_seql, b_sneq, b_add, b_sub, u_not, nilC_ptr, fAddr_ptr, Nat.zero_add, extr0, extr1, extr2, lenStr, decide_true, decide_false, bt_tt, bt_tf, bt_ft, bt_ff, bt_bne, Bool.not_true, Bool.not_false, Int.reduceBEq, Int.reduceBNe, Bool.or_true, cv8 (show i < 256 by omega), litB1, hX4, p1, p2 G4 hG4, half hle, s2, lit3]
    refine Ev.callC b1 ?_
    simp only [real_b, real_i, real_c, chk_t, bnd_some, bnd_up, iff_t, iff_f, gd_t, gd_f, wd_b, wd_u, pick_t, pick_f, b_lss, b_leq, b_gtr, b_geq, b_eql, b_neq, b_seql, b_sneq, b_add, b_sub, u_not, nilC_ptr, fAddr_ptr, Nat.zero_add, extr0, extr1, extr2, lenStr, decide_true, decide_false, bt_tt, bt_tf, bt_ft, bt_ff, bt_bne, Bool.not_true, Bool.not_false, Int.reduceBEq, Int.reduceBNe, Bool.or_true, p1, p2 G6 hG6, s1, o1, hX7, eadd, erem, r1, r2 G7 hG7, s3, hX8]
    refine Ev.callC c1 ?_
    simp only [real_b, real_i, real_c, chk_t, bnd_some, bnd_up, iff_t, iff_f, gd_t, gd_f, wd_b, wd_u, pick_t, pick_f, b_lss, b_leq, b_gtr, b_geq, b_eql, b_neq, b_seql, b_sneq, b_add, b_sub, u_not, nilC_ptr, fAddr_ptr, Nat.zero_add, extr0, extr1, extr2, lenStr, decide_true, decide_false, bt_tt, bt_tf, bt_ft, bt_ff, bt_bne, Bool.not_true, Bool.not_false, Int.reduceBEq, Int.reduceBNe, Bool.or_true, eadd]
    exact h
end Go.Eng

/- A copied grammar, turned at one place. -/
set_option linter.unusedVariables false
set_option linter.unusedSimpArgs false
namespace Go.Eng
open Go Go.Proofs

theorem upd_past' {H : Heap} {c : Nat} {x : Option Blk} : Keep (fun b => b ≠ c) H (H.upd c x) := Keep.upd (fun h => h rfl)
theorem Acc.own_keep {R Q : Nat → Prop} {H H' : Heap} {sz n : Nat} {v : Value} {cs : List Value} (h : Acc R H sz v n cs) (hk : Keep Q H H') (hq : ∀ b, blkOf v = some b → Q b) : Acc R H' sz v n cs := by
  rcases h with h | ⟨b, rfl, h2, h3, h4, h5⟩
  · exact .inl h
  · exact .inr ⟨b, rfl, h2, Nat.lt_of_lt_of_le h3 hk.1, by rw [hk.2 b (hq b rfl)]; exact h4, h5⟩
/-- One cell is written. -/
theorem Acc.put {R : Nat → Prop} {H : Heap} {sz n i o : Nat} {v : Value} {cs : List Value} {y : Value} (h : Acc R H sz v n cs) (hi : i < n) (ho : o < sz) (hc : y.cells = #[y]) (h1 : Eng.oneC y = true) :
    ∃ b, blkOf v = some b ∧ iAddrS sz v (.int .i64 (i : Int)) = some (ptr b (i * sz)) ∧ stV 1 (ptr b (i * sz + o)) y H = some (undef, H.upd b (some ⟨cs.set (i * sz + o) y, sz, true⟩)) ∧ Acc R (H.upd b (some ⟨cs.set (i * sz + o) y, sz, true⟩)) sz v n (cs.set (i * sz + o) y) := by
  rcases h with ⟨rfl, h0, _⟩ | ⟨b, rfl, h2, h3, h4, h5⟩
  · omega
  · have hk : i * sz + o < cs.length := by
      rw [h5]
      have : (i + 1) * sz ≤ n * sz := Nat.mul_le_mul_right _ hi
      rw [Nat.add_mul] at this
      omega
    refine ⟨b, rfl, ?_, stV1_box h4 hk hc h1, .inr ⟨b, rfl, h2, h3, upd_self, by rw [List.length_set]; exact h5⟩⟩
    simp only [iAddrS]
    rw [if_pos (by omega)]
    simp
/-- No block. -/
abbrev no : Nat → Prop := fun _ => False
theorem Acc.sliN {α : Type} [Rp α] {R : Nat → Prop} {H : Heap} {xs : List α} {v : Value} {cs : List Value} (h : Acc R H (Rp.sz α) v xs.length cs) {Q : Nat → Prop} (hr : RpL Q H xs cs) (hQ : ∀ b, Q b → ¬ R b ∧ b < H.n) : Sli (fun b => ¬ R b ∧ b < H.n) H xs v := ⟨cs, h.read fun b h1 h2 => ⟨h1, h2⟩, hr.mono hQ⟩
theorem noQ {R : Nat → Prop} {H : Heap} : ∀ b, no b → ¬ R b ∧ b < H.n := fun _ h => h.elim
section
variable {R : Nat → Prop} {H : Heap} {g : Gr} {w0 w1 w2 w3 w4 : Value} {c0 c1 c2 c3 c4 : List Value} {Rq : Nat → Prop}
theorem strs_set {xs : List ByteArray} {cs : List Value} (h : RpL R H xs cs) (i : Nat) (s : ByteArray) {Q : Nat → Prop} {H' : Heap} : RpL Q H' (xs.set i s) (cs.set i (.string s)) := by
  rw [strs_cells h, ← List.map_set]
  exact strs_rep _
/-- The five slices of a grammar read it. -/
structure G5 (Q : Nat → Prop) (H : Heap) (g : Gr) (w0 w1 w2 w3 w4 : Value) : Prop where
  s0 : Sli Q H g.terms w0
  s1 : Sli Q H g.levels w1
  s2 : Sli Q H g.pats w2
  s3 : Sli Q H g.nons w3
  s4 : Sli Q H g.prods w4
theorem G5.keep {Q : Nat → Prop} {H' : Heap} (h : G5 Q H g w0 w1 w2 w3 w4) (k : Keep Q H H') : G5 Q H' g w0 w1 w2 w3 w4 := ⟨h.s0.keep k, h.s1.keep k, h.s2.keep k, h.s3.keep k, h.s4.keep k⟩
theorem G5.mono {Q Q' : Nat → Prop} (h : G5 Q H g w0 w1 w2 w3 w4) (k : ∀ b, Q b → Q' b) : G5 Q' H g w0 w1 w2 w3 w4 := ⟨h.s0.mono k, h.s1.mono k, h.s2.mono k, h.s3.mono k, h.s4.mono k⟩
/-- A box made behind: the lists are none of it. -/
theorem OG.boxed (h : OG R H g w0 w1 w2 w3 w4 c0 c1 c2 c3 c4 Rq) {blk : Blk} : OG (fun b => R b ∨ b = H.n) (H.push blk) g w0 w1 w2 w3 w4 c0 c1 c2 c3 c4 Rq := by
  have kp : Keep (all H) H (H.push blk) := push_keep
  have up {sz n : Nat} {S : Nat → Prop} {v : Value} {cs : List Value} (a : Acc S H sz v n cs) : Acc (fun b => S b ∨ b = H.n) (H.push blk) sz v n cs := (a.keep kp).weak fun b hb hh => by
    have := a.at hb
    rcases hh with hh | hh
    · exact this.1 hh
    · omega
  refine ⟨up h.a0, up h.a1, up h.a2, up h.a3, (up h.a4).low fun b hb => ?_, any_str h.r0, any_lv h.r1, any_pt h.r2, any_str h.r3, h.r4.keep (kp.mono fun b hb => (h.rq b hb).2), fun b hb => ⟨fun hh => ?_, ?_⟩, h.ne0, h.ne1, h.ne2, h.ne3⟩
  · rcases hb with (hb | hb) | hb
    · exact .inl (.inl hb)
    · exact .inr hb
    · exact .inl (.inr hb)
  · have := h.rq b hb
    rcases hh with hh | hh
    · exact this.1 hh
    · omega
  · have := (h.rq b hb).2
    simp only [push_n]; omega
theorem OG.sm (h : OG R H g w0 w1 w2 w3 w4 c0 c1 c2 c3 c4 Rq) : G5 (fun b => ¬ R b ∧ b < H.n) H g w0 w1 w2 w3 w4 :=
  ⟨h.a0.sliN (any_str (R' := no) h.r0) noQ, h.a1.sliN (any_lv (R' := no) h.r1) noQ, h.a2.sliN (any_pt (R' := no) h.r2) noQ, h.a3.sliN (any_str (R' := no) h.r3) noQ, (h.a4.low fun _ hb => .inl hb).sliN h.r4 h.rq⟩
theorem OG.set0 (h : OG R H g w0 w1 w2 w3 w4 c0 c1 c2 c3 c4 Rq) {i : Nat} (hi : i < g.terms.length) (s : ByteArray) :
    ∃ b H', iAddrS 1 w0 (.int .i64 (i : Int)) = some (ptr b i) ∧ stV 1 (ptr b i) (.string s) H = some (undef, H') ∧ Keep (fun x => x ≠ b) H H' ∧ blkOf w0 = some b ∧ G5 (fun b => ¬ R b ∧ b < H'.n) H' { g with terms := g.terms.set i s } w0 w1 w2 w3 w4 := by
  obtain ⟨b, b1, b2, b3, b4⟩ := h.a0.put (o := 0) (y := .string s) hi (by omega) rfl rfl
  simp only [Nat.mul_one, Nat.add_zero] at b2 b3 b4
  have k : Keep (fun x => x ≠ b) H (H.upd b (some ⟨c0.set i (.string s), 1, true⟩)) := upd_past'
  have ne := h.ne0 b b1
  refine ⟨b, _, b2, b3, k, b1, Acc.sliN (xs := g.terms.set i s) (by rw [List.length_set]; exact b4) (strs_set (Q := no) h.r0 i s) noQ, (h.a1.own_keep k fun x hx he => ne.1 (he ▸ hx)).sliN (any_lv (R' := no) h.r1) noQ, (h.a2.own_keep k fun x hx he => ne.2.1 (he ▸ hx)).sliN (any_pt (R' := no) h.r2) noQ, (h.a3.own_keep k fun x hx he => ne.2.2.1 (he ▸ hx)).sliN (any_str (R' := no) h.r3) noQ,
    ((h.a4.own_keep k fun x hx he => ne.2.2.2.1 (he ▸ hx)).low fun _ hb => .inl hb).sliN (h.r4.keep (k.mono fun x hx he => ne.2.2.2.2 (he ▸ hx))) h.rq⟩
theorem OG.set3 (h : OG R H g w0 w1 w2 w3 w4 c0 c1 c2 c3 c4 Rq) {i : Nat} (hi : i < g.nons.length) (s : ByteArray) :
    ∃ b H', iAddrS 1 w3 (.int .i64 (i : Int)) = some (ptr b i) ∧ stV 1 (ptr b i) (.string s) H = some (undef, H') ∧ Keep (fun x => x ≠ b) H H' ∧ blkOf w3 = some b ∧ G5 (fun b => ¬ R b ∧ b < H'.n) H' { g with nons := g.nons.set i s } w0 w1 w2 w3 w4 := by
  obtain ⟨b, b1, b2, b3, b4⟩ := h.a3.put (o := 0) (y := .string s) hi (by omega) rfl rfl
  simp only [Nat.mul_one, Nat.add_zero] at b2 b3 b4
  have k : Keep (fun x => x ≠ b) H (H.upd b (some ⟨c3.set i (.string s), 1, true⟩)) := upd_past'
  have ne := h.ne3 b b1
  refine ⟨b, _, b2, b3, k, b1, (h.a0.own_keep k fun x hx he => (h.ne0 x hx).2.2.1 (he ▸ b1)).sliN (any_str (R' := no) h.r0) noQ, (h.a1.own_keep k fun x hx he => (h.ne1 x hx).2.1 (he ▸ b1)).sliN (any_lv (R' := no) h.r1) noQ, (h.a2.own_keep k fun x hx he => (h.ne2 x hx).1 (he ▸ b1)).sliN (any_pt (R' := no) h.r2) noQ, Acc.sliN (xs := g.nons.set i s) (by rw [List.length_set]; exact b4) (strs_set (Q := no) h.r3 i s) noQ,
    ((h.a4.own_keep k fun x hx he => ne.1 (he ▸ hx)).low fun _ hb => .inl hb).sliN (h.r4.keep (k.mono fun x hx he => ne.2 (he ▸ hx))) h.rq⟩
/-- A level's cell; what the cells are then, the caller says. -/
theorem OG.set1 (h : OG R H g w0 w1 w2 w3 w4 c0 c1 c2 c3 c4 Rq) {i o : Nat} (hi : i < g.levels.length) (ho : o < 2) {n : Int} {ls : List Lv} (hl : ls.length = g.levels.length) (hr : ∀ {Q : Nat → Prop} {X : Heap}, RpL Q X ls (c1.set (i * 2 + o) (.int .i64 n))) :
    ∃ b H', iAddrS 2 w1 (.int .i64 (i : Int)) = some (ptr b (i * 2)) ∧ stV 1 (ptr b (i * 2 + o)) (.int .i64 n) H = some (undef, H') ∧ Keep (fun x => x ≠ b) H H' ∧ blkOf w1 = some b ∧ G5 (fun b => ¬ R b ∧ b < H'.n) H' { g with levels := ls } w0 w1 w2 w3 w4 := by
  obtain ⟨b, b1, b2, b3, b4⟩ := h.a1.put (o := o) (y := .int .i64 n) hi ho rfl rfl
  have k : Keep (fun x => x ≠ b) H (H.upd b (some ⟨c1.set (i * 2 + o) (.int .i64 n), 2, true⟩)) := upd_past'
  have ne := h.ne1 b b1
  refine ⟨b, _, b2, b3, k, b1, (h.a0.own_keep k fun x hx he => (h.ne0 x hx).1 (he ▸ b1)).sliN (any_str (R' := no) h.r0) noQ, Acc.sliN (Q := no) (xs := ls) (by rw [hl]; exact b4) hr noQ, (h.a2.own_keep k fun x hx he => ne.1 (he ▸ hx)).sliN (any_pt (R' := no) h.r2) noQ, (h.a3.own_keep k fun x hx he => ne.2.1 (he ▸ hx)).sliN (any_str (R' := no) h.r3) noQ,
    ((h.a4.own_keep k fun x hx he => ne.2.2.1 (he ▸ hx)).low fun _ hb => .inl hb).sliN (h.r4.keep (k.mono fun x hx he => ne.2.2.2 (he ▸ hx))) h.rq⟩
/-- A production's cell. -/
theorem OG.set4 (h : OG R H g w0 w1 w2 w3 w4 c0 c1 c2 c3 c4 Rq) {i o : Nat} (hi : i < g.prods.length) (ho : o < 4) {y : Value} (hy : y.cells = #[y] ∧ oneC y = true) {ps : List Pd} (hl : ps.length = g.prods.length) (hr : ∀ {X : Heap}, Keep Rq H X → RpL Rq X ps (c4.set (i * 4 + o) y)) :
    ∃ b H', iAddrS 4 w4 (.int .i64 (i : Int)) = some (ptr b (i * 4)) ∧ stV 1 (ptr b (i * 4 + o)) y H = some (undef, H') ∧ Keep (fun x => x ≠ b) H H' ∧ blkOf w4 = some b ∧ G5 (fun b => ¬ R b ∧ b < H'.n) H' { g with prods := ps } w0 w1 w2 w3 w4 := by
  obtain ⟨b, b1, b2, b3, b4⟩ := h.a4.put (o := o) (y := y) hi ho hy.1 hy.2
  have k : Keep (fun x => x ≠ b) H (H.upd b (some ⟨c4.set (i * 4 + o) y, 4, true⟩)) := upd_past'
  have nq : ∀ x, Rq x → x ≠ b := fun x hx he => (h.a4.at b1).1 (.inr (he ▸ hx))
  refine ⟨b, _, b2, b3, k, b1, (h.a0.own_keep k fun x hx he => (h.ne0 x hx).2.2.2.1 (he ▸ b1)).sliN (any_str (R' := no) h.r0) noQ, (h.a1.own_keep k fun x hx he => (h.ne1 x hx).2.2.1 (he ▸ b1)).sliN (any_lv (R' := no) h.r1) noQ, (h.a2.own_keep k fun x hx he => (h.ne2 x hx).2.1 (he ▸ b1)).sliN (any_pt (R' := no) h.r2) noQ, (h.a3.own_keep k fun x hx he => (h.ne3 x hx).1 (he ▸ b1)).sliN (any_str (R' := no) h.r3) noQ,
    Acc.sliN (Q := Rq) (xs := ps) (by rw [hl]; exact b4.low fun _ hb => .inl hb) (hr (k.mono nq)) h.rq⟩
end
end Go.Eng

/- A pattern appended; the chapter's grammar. -/
set_option linter.unusedVariables false
set_option linter.unusedSimpArgs false
namespace Go.Eng
open Go Go.Proofs

section
variable {R : Nat → Prop} {H : Heap} {g : Gr} {w0 w1 w2 w3 w4 : Value} {c0 c1 c2 c3 c4 : List Value} {Rq : Nat → Prop}
theorem OG.add2 (h : OG R H g w0 w1 w2 w3 w4 c0 c1 c2 c3 c4 Rq) (hR : Rb R H) {t : Int} {s : ByteArray} (ht : inI t) (hp : g.pats.length < 1000000) :
    ∃ w H', app 2 24 w2 (.slice (some ⟨H.n, 0, none⟩) 1 1) (H.push ⟨[.int .i64 t, .string s], 2, true⟩) = some (w, H') ∧ Keep R H H' ∧ (oneC w = true ∧ w.cells = #[w]) ∧ G5 (fun b => ¬ R b ∧ b < H'.n) H' { g with pats := g.pats ++ [⟨t, s⟩] } w0 w1 w w3 w4 := by
  have hmb : mostBytes = 140737488355328 := rfl
  have kp : Keep (all H) H (H.push ⟨[.int .i64 t, .string s], 2, true⟩) := push_keep
  have A : Acc (fun b => b < H.n ∧ blkOf w2 ≠ some b) (H.push ⟨[.int .i64 t, .string s], 2, true⟩) 2 w2 g.pats.length c2 := (h.a2.weak (R' := fun b => b < H.n ∧ blkOf w2 ≠ some b) fun b hb hh => hh.2 hb).keep kp
  obtain ⟨w, H', p1, p2, p3⟩ := A.app (by_ := 24) (x := .slice (some ⟨H.n, 0, none⟩) 1 1) (k := 1) (xs := [.int .i64 t, .string s]) (fun b hb => by have := hb.1; simp only [push_n]; omega) (addend_push rfl) rfl (by omega)
  have k2 : Keep (fun b => b < H.n ∧ blkOf w2 ≠ some b) H H' := (kp.mono fun b hb => hb.1).trans p3
  have rr : ∀ b, R b → b < H.n ∧ blkOf w2 ≠ some b := fun b hb => ⟨hR b hb, fun hh => (h.a2.at hh).1 hb⟩
  have p2' : Acc R H' 2 w (g.pats ++ [(⟨t, s⟩ : Pt)]).length (c2 ++ [.int .i64 t, .string s]) := by
    rw [List.length_append]
    exact p2.weak fun b hb hh => (p2.at hb).1 (rr b hh)
  refine ⟨w, H', p1, k2.mono rr, p2.oneC, (h.a0.own_keep k2 fun b hb => ⟨(h.a0.at hb).2, (h.ne0 b hb).2.1⟩).sliN (any_str (R' := no) h.r0) noQ, (h.a1.own_keep k2 fun b hb => ⟨(h.a1.at hb).2, (h.ne1 b hb).1⟩).sliN (any_lv (R' := no) h.r1) noQ,
    Acc.sliN (Q := no) (xs := g.pats ++ [(⟨t, s⟩ : Pt)]) p2' (RpL.append (any_pt h.r2) (RpL.single (x := (⟨t, s⟩ : Pt)) (c := [.int .i64 t, .string s]) ⟨_, _, rfl, ⟨rfl, ht⟩, _, _, rfl, rfl, rfl⟩)) noQ,
    (h.a3.own_keep k2 fun b hb => ⟨(h.a3.at hb).2, fun hh => (h.ne2 b hh).1 hb⟩).sliN (any_str (R' := no) h.r3) noQ,
    ((h.a4.own_keep k2 fun b hb => ⟨(h.a4.at hb).2, fun hh => (h.ne2 b hh).2.1 hb⟩).low fun _ hb => .inl hb).sliN (h.r4.keep (k2.mono fun b hb => ⟨(h.rq b hb).2, fun hh => (h.ne2 b hh).2.2 hb⟩)) fun b hb => ⟨(h.rq b hb).1, Nat.lt_of_lt_of_le (h.rq b hb).2 k2.1⟩⟩
theorem G5.rep {Q : Nat → Prop} (h : G5 Q H g w0 w1 w2 w3 w4) : Rp.rep Q H g [w0, w1, w2, w3, w4] :=
  ⟨[w0], _, rfl, ⟨w0, rfl, h.s0⟩, [w1], _, rfl, ⟨w1, rfl, h.s1⟩, [w2], _, rfl, ⟨w2, rfl, h.s2⟩, [w3], _, rfl, ⟨w3, rfl, h.s3⟩, [w4], _, rfl, ⟨w4, rfl, h.s4⟩, rfl⟩
end

/-! ### the chapter's grammar -/
def chap : Gr := ⟨[bs [], bs [110]], [⟨0, 0⟩, ⟨0, 0⟩], [], [bs [], bs [101]], [⟨0, [3], ⟨0, 0⟩⟩, ⟨1, [1], ⟨1, 1⟩⟩]⟩
theorem stA_boxK {H : Heap} {b n : Nat} {cs ds : List Value} (h : H.get b = some ⟨cs, 1, true⟩) (hn : cs.length = n) (hd : ds.length = n) (ho : ds.all oneC = true) : stV n (ptr b 0) (.agg ds.toArray) H = some (undef, H.upd b (some ⟨ds, 1, true⟩)) := by
  subst hn
  have e : splice cs 0 ds = ds := by simp [splice, hd]
  have h' : ds.all Value.oneCell' = true := ho
  simp only [stV, h, Value.cells, e]
  rw [if_pos]
  exact ⟨by simp [hd], h', by omega, trivial⟩
theorem ldA_updK {H : Heap} {b n : Nat} {ds : List Value} (hd : n = ds.length) : Eng.ldA n (ptr b 0) (H.upd b (some ⟨ds, 1, true⟩)) = some (.agg ds.toArray, H.upd b (some ⟨ds, 1, true⟩)) := by
  simp only [Eng.ldA, upd_self]
  rw [if_pos (by omega)]
  simp [cut, hd]
theorem resM1 {a : Value} : resM [some a] = some [a] := nr _
theorem one1 {a : Value} : one [a] = a := nr _
theorem chap_ok (H : Heap) : ∃ cs H', Cl 29 [] H (.agg cs.toArray) H' ∧ Keep (all H) H H' ∧ Rp.rep (all H') H' chap cs := by
  have k1 : Keep (all H) H (H.push ⟨[nilS, nilS, nilS, nilS, nilS], 1, true⟩) := push_keep
  have g1 : (H.push ⟨[nilS, nilS, nilS, nilS, nilS], 1, true⟩).get H.n = some ⟨[nilS, nilS, nilS, nilS, nilS], 1, true⟩ := push_self
  have e1 : newV [nilS, nilS, nilS, nilS, nilS] H = some (ptr H.n 0, H.push ⟨[nilS, nilS, nilS, nilS, nilS], 1, true⟩) := newV_box rfl
  have n1 : H.n < (H.push ⟨[nilS, nilS, nilS, nilS, nilS], 1, true⟩).n := by simp [push_n]
  generalize H.push ⟨[nilS, nilS, nilS, nilS, nilS], 1, true⟩ = H1 at *
  -- the lists, one behind the other
  have k2 : Keep (all H1) H1 (H1.push ⟨[bs [], bs [110]].map Value.string, 1, true⟩) := push_keep
  have s2 : Sli (fun b => H.n < b ∧ b < (H1.push ⟨[bs [], bs [110]].map Value.string, 1, true⟩).n) (H1.push ⟨[bs [], bs [110]].map Value.string, 1, true⟩) [bs [], bs [110]] (.slice (some ⟨H1.n, 0, none⟩) 2 2) := push_Ss (by simp only [push_n]; omega)
  have e2 : bldS 1 2 [.string ⟨#[]⟩] [(0, 1, .string ⟨#[]⟩), (1, 1, .string ⟨#[110]⟩)] H1 = some (.slice (some ⟨H1.n, 0, none⟩) 2 2, H1.push ⟨[bs [], bs [110]].map Value.string, 1, true⟩) := litS2 (a := bs []) (b := bs [110])
  generalize H1.push ⟨[bs [], bs [110]].map Value.string, 1, true⟩ = H2 at *
  have k3 : Keep (all H2) H2 (H2.push ⟨[.int .i64 0, .int .i64 0, .int .i64 0, .int .i64 0], 2, true⟩) := push_keep
  have s3 : Sli (fun b => H.n < b ∧ b < (H2.push ⟨[.int .i64 0, .int .i64 0, .int .i64 0, .int .i64 0], 2, true⟩).n) (H2.push ⟨[.int .i64 0, .int .i64 0, .int .i64 0, .int .i64 0], 2, true⟩) [(⟨0, 0⟩ : Lv), ⟨0, 0⟩] (.slice (some ⟨H2.n, 0, none⟩) 2 2) :=
    ⟨[.int .i64 0, .int .i64 0, .int .i64 0, .int .i64 0], .inr (.inr ⟨H2.n, 0, none, 2, _, rfl, by have := k2.1; simp only [push_n]; omega, push_self, by decide, by decide, rfl⟩), .cons (c := [.int .i64 0, .int .i64 0]) (rep_lv_mk (x := ⟨0, 0⟩) ⟨by decide, by decide⟩ ⟨by decide, by decide⟩) (.cons (c := [.int .i64 0, .int .i64 0]) (rep_lv_mk (x := ⟨0, 0⟩) ⟨by decide, by decide⟩ ⟨by decide, by decide⟩) .nil)⟩
  have e3 : bldS 2 2 [.int .i64 0, .int .i64 0] [(0, 2, .agg [.int .i64 0, .int .i64 0].toArray), (2, 2, .agg [.int .i64 0, .int .i64 0].toArray)] H2 = some (.slice (some ⟨H2.n, 0, none⟩) 2 2, H2.push ⟨[.int .i64 0, .int .i64 0, .int .i64 0, .int .i64 0], 2, true⟩) := rfl
  generalize H2.push ⟨[.int .i64 0, .int .i64 0, .int .i64 0, .int .i64 0], 2, true⟩ = H3 at *
  have k4 : Keep (all H3) H3 (H3.push ⟨[bs [], bs [101]].map Value.string, 1, true⟩) := push_keep
  have s4 : Sli (fun b => H.n < b ∧ b < (H3.push ⟨[bs [], bs [101]].map Value.string, 1, true⟩).n) (H3.push ⟨[bs [], bs [101]].map Value.string, 1, true⟩) [bs [], bs [101]] (.slice (some ⟨H3.n, 0, none⟩) 2 2) := push_Ss (by have := k2.1; have := k3.1; simp only [push_n]; omega)
  have e4 : bldS 1 2 [.string ⟨#[]⟩] [(0, 1, .string ⟨#[]⟩), (1, 1, .string ⟨#[101]⟩)] H3 = some (.slice (some ⟨H3.n, 0, none⟩) 2 2, H3.push ⟨[bs [], bs [101]].map Value.string, 1, true⟩) := litS2 (a := bs []) (b := bs [101])
  generalize H3.push ⟨[bs [], bs [101]].map Value.string, 1, true⟩ = H4 at *
  have int1 : ∀ (X : Heap) (a : Int), H.n < X.n → inI a → Sli (fun b => H.n < b ∧ b < (X.push ⟨[.int .i64 a], 1, true⟩).n) (X.push ⟨[.int .i64 a], 1, true⟩) [a] (.slice (some ⟨X.n, 0, none⟩) 1 1) := fun X a hX ha =>
    ⟨[.int .i64 a], .inr (.inr ⟨X.n, 0, none, 1, _, rfl, by simp only [push_n]; omega, push_self, (show 0 + 1 * 1 ≤ 1 by omega), (show 1 ≤ 1 by omega), rfl⟩), .cons (c := [.int .i64 a]) ⟨rfl, ha⟩ .nil⟩
  have k5 : Keep (all H4) H4 (H4.push ⟨[.int .i64 3], 1, true⟩) := push_keep
  have s5 := int1 H4 3 (by have := k2.1; have := k3.1; have := k4.1; omega) ⟨by decide, by decide⟩
  have e5 : bldS 1 1 [.int .i64 0] [(0, 1, .int .i64 3)] H4 = some (.slice (some ⟨H4.n, 0, none⟩) 1 1, H4.push ⟨[.int .i64 3], 1, true⟩) := bld1 rfl rfl
  generalize H4.push ⟨[.int .i64 3], 1, true⟩ = H5 at *
  have k6 : Keep (all H5) H5 (H5.push ⟨[.int .i64 1], 1, true⟩) := push_keep
  have s6 := int1 H5 1 (by have := k2.1; have := k3.1; have := k4.1; have := k5.1; omega) ⟨by decide, by decide⟩
  have e6 : bldS 1 1 [.int .i64 0] [(0, 1, .int .i64 1)] H5 = some (.slice (some ⟨H5.n, 0, none⟩) 1 1, H5.push ⟨[.int .i64 1], 1, true⟩) := bld1 rfl rfl
  generalize H5.push ⟨[.int .i64 1], 1, true⟩ = H6 at *
  have n6 : H1.n ≤ H6.n := (Nat.le_trans k2.1 (Nat.le_trans k3.1 (Nat.le_trans k4.1 (Nat.le_trans k5.1 k6.1))))
  let P : List Value := [.int .i64 0, .slice (some ⟨H4.n, 0, none⟩) 1 1, .int .i64 0, .int .i64 0, .int .i64 1, .slice (some ⟨H5.n, 0, none⟩) 1 1, .int .i64 1, .int .i64 1]
  have k7 : Keep (all H6) H6 (H6.push ⟨P, 4, true⟩) := push_keep
  have e7 : bldS 4 2 [.int .i64 0, .slice none 0 0, .int .i64 0, .int .i64 0] [(0, 4, .agg [.int .i64 0, .slice (some ⟨H4.n, 0, none⟩) 1 1, .int .i64 0, .int .i64 0].toArray), (4, 4, .agg [.int .i64 1, .slice (some ⟨H5.n, 0, none⟩) 1 1, .int .i64 1, .int .i64 1].toArray)] H6 = some (.slice (some ⟨H6.n, 0, none⟩) 2 2, H6.push ⟨P, 4, true⟩) := rfl
  have l7 : Sl (fun b => H.n < b ∧ b < (H6.push ⟨P, 4, true⟩).n) (H6.push ⟨P, 4, true⟩) 4 (.slice (some ⟨H6.n, 0, none⟩) 2 2) 2 P := .inr (.inr ⟨H6.n, 0, none, 2, _, rfl, by simp only [push_n]; omega, push_self, (show 0 + 2 * 4 ≤ 8 by omega), (show 2 ≤ 2 by omega), rfl⟩)
  generalize H6.push ⟨P, 4, true⟩ = H7 at *
  have g7 : H7.get H.n = some ⟨[nilS, nilS, nilS, nilS, nilS], 1, true⟩ := by
    rw [k7.2 H.n (by show H.n < H6.n; omega), k6.2 H.n (by have := k2.1; have := k3.1; have := k4.1; have := k5.1; show H.n < H5.n; omega), k5.2 H.n (by have := k2.1; have := k3.1; have := k4.1; show H.n < H4.n; omega), k4.2 H.n (by have := k2.1; have := k3.1; show H.n < H3.n; omega), k3.2 H.n (by have := k2.1; show H.n < H2.n; omega), k2.2 H.n n1]
    exact g1
  let D : List Value := [.slice (some ⟨H1.n, 0, none⟩) 2 2, .slice (some ⟨H2.n, 0, none⟩) 2 2, nilS, .slice (some ⟨H3.n, 0, none⟩) 2 2, .slice (some ⟨H6.n, 0, none⟩) 2 2]
  have e8 : stV 5 (ptr H.n 0) (.agg D.toArray) H7 = some (undef, H7.upd H.n (some ⟨D, 1, true⟩)) := stA_boxK g7 rfl rfl rfl
  have l8 : ldA 5 (ptr H.n 0) (H7.upd H.n (some ⟨D, 1, true⟩)) = some (.agg D.toArray, H7.upd H.n (some ⟨D, 1, true⟩)) := ldA_updK rfl
  have k8 : Keep (fun b => b ≠ H.n) H7 (H7.upd H.n (some ⟨D, 1, true⟩)) := upd_past'
  have b1 : bld [.int .i64 0, .int .i64 0] [] H2 = some (.agg [.int .i64 0, .int .i64 0].toArray, H2) := rfl
  have b2 : bld [.int .i64 0, .slice none 0 0, .int .i64 0, .int .i64 0] [(1, 1, .slice (some ⟨H4.n, 0, none⟩) 1 1)] H5 = some (.agg [.int .i64 0, .slice (some ⟨H4.n, 0, none⟩) 1 1, .int .i64 0, .int .i64 0].toArray, H5) := rfl
  have b3 : bld [.int .i64 0, .int .i64 0] [(0, 1, .int .i64 1), (1, 1, .int .i64 1)] H6 = some (.agg [.int .i64 1, .int .i64 1].toArray, H6) := rfl
  have b4 : bld [.int .i64 0, .slice none 0 0, .int .i64 0, .int .i64 0] [(0, 1, .int .i64 1), (1, 1, .slice (some ⟨H5.n, 0, none⟩) 1 1), (2, 2, .agg [.int .i64 1, .int .i64 1].toArray)] H6 = some (.agg [.int .i64 1, .slice (some ⟨H5.n, 0, none⟩) 1 1, .int .i64 1, .int .i64 1].toArray, H6) := rfl
  have b5 : bld [.slice none 0 0, .slice none 0 0, .slice none 0 0, .slice none 0 0, .slice none 0 0] [(0, 1, .slice (some ⟨H1.n, 0, none⟩) 2 2), (1, 1, .slice (some ⟨H2.n, 0, none⟩) 2 2), (3, 1, .slice (some ⟨H3.n, 0, none⟩) 2 2), (4, 1, .slice (some ⟨H6.n, 0, none⟩) 2 2)] H7 = some (.agg D.toArray, H7) := rfl
  have up8 : ∀ (X : Heap), Keep (all X) X H7 → Keep (fun b => H.n < b ∧ b < X.n) X (H7.upd H.n (some ⟨D, 1, true⟩)) := fun X h => (h.mono fun b hb => hb.2).trans (k8.mono fun b hb => by have := hb.1; omega)
  have m6 := k7
  have m5 := k6.tr m6
  have m4 := k5.tr m5
  have m3 := k4.tr m4
  have m2 := k3.tr m3
  have all8 : ∀ (X : Heap), Keep (all X) X H7 → ∀ b, (H.n < b ∧ b < X.n) → all (H7.upd H.n (some ⟨D, 1, true⟩)) b := fun X h b hb => Nat.lt_of_lt_of_le hb.2 h.1
  refine ⟨D, H7.upd H.n (some ⟨D, 1, true⟩), ?_, k1.trans (((k2.tr m2).mono fun b hb => by have h : b < H.n := hb; show b < H1.n; omega).trans (k8.mono fun b hb => by have h : b < H.n := hb; omega)), ?_⟩
  · refine Ev.enter (fun n => f29_eq rfl n _) ?_
    simp only [f29, real_b, real_i, real_c, chk_t, bnd_some, bnd_up, iff_t, iff_f, gd_t, gd_f, wd_b, wd_u, pick_t, pick_f, b_lss, b_leq, b_gtr, b_geq, b_eql, b_neq, b_seql, b_sneq, b_add, b_sub, u_not, nilC_ptr, fAddr_ptr, Nat.zero_add, extr0, extr1, extr2, lenStr, decide_true, decide_false, bt_tt, bt_tf, bt_ft, bt_ff, bt_bne, Bool.not_true, Bool.not_false, Int.reduceBEq, Int.reduceBNe, show newV [.slice none 0 0, .slice none 0 0, .slice none 0 0, .slice none 0 0, .slice none 0 0] H = _ from e1, e2, b1, e3, e4, e5, b2, e6, b3, b4, e7, b5, e8, l8, Option.map_some, resM1, one1]
    exact Ev.pure _
  · have q5 := (s5.keep (up8 H5 m5)).mono (all8 H5 m5)
    have q6 := (s6.keep (up8 H6 m6)).mono (all8 H6 m6)
    have hs : G5 (all (H7.upd H.n (some ⟨D, 1, true⟩))) (H7.upd H.n (some ⟨D, 1, true⟩)) chap (.slice (some ⟨H1.n, 0, none⟩) 2 2) (.slice (some ⟨H2.n, 0, none⟩) 2 2) nilS (.slice (some ⟨H3.n, 0, none⟩) 2 2) (.slice (some ⟨H6.n, 0, none⟩) 2 2) :=
      ⟨(s2.keep (up8 H2 m2)).mono (all8 H2 m2), (s3.keep (up8 H3 m3)).mono (all8 H3 m3), ⟨[], Sl.nil, .nil⟩, (s4.keep (up8 H4 m4)).mono (all8 H4 m4),
        ⟨P, (l7.keep (up8 H7 (Keep.refl _ _))).mono (all8 H7 (Keep.refl _ _)), .cons (c := [.int .i64 0, .slice (some ⟨H4.n, 0, none⟩) 1 1, .int .i64 0, .int .i64 0]) (rep_pd_mk (x := ⟨0, [3], ⟨0, 0⟩⟩) q5 ⟨by decide, by decide⟩ ⟨by decide, by decide⟩ ⟨by decide, by decide⟩) (.cons (c := [.int .i64 1, .slice (some ⟨H5.n, 0, none⟩) 1 1, .int .i64 1, .int .i64 1]) (rep_pd_mk (x := ⟨1, [1], ⟨1, 1⟩⟩) q6 ⟨by decide, by decide⟩ ⟨by decide, by decide⟩ ⟨by decide, by decide⟩) .nil)⟩⟩
    exact hs.rep
end Go.Eng

/- KeysKnown: what is asked of each turned grammar. -/
set_option linter.unusedVariables false
set_option linter.unusedSimpArgs false
namespace Go.Eng
open Go Go.Proofs

/-- A box that holds a grammar. -/
structure BG (X : Heap) (b : Nat) (g : Gr) (p0 p1 p2 p3 p4 : Value) : Prop where
  box : Box (all X) X b [p0, p1, p2, p3, p4]
  rep : Rp.rep (all X) X g [p0, p1, p2, p3, p4]
theorem BG.up {X Y : Heap} {b : Nat} {g : Gr} {p0 p1 p2 p3 p4 : Value} (h : BG X b g p0 p1 p2 p3 p4) (k : Keep (all X) X Y) : BG Y b g p0 p1 p2 p3 p4 := ⟨(h.box.keep k).mono (upA k), Rp.mono (Rp.keep h.rep k) (upA k)⟩
theorem BG.ld {X : Heap} {b : Nat} {g : Gr} {p0 p1 p2 p3 p4 : Value} (h : BG X b g p0 p1 p2 p3 p4) : ldA 5 (ptr b 0) X = some (.agg [p0, p1, p2, p3, p4].toArray, X) := h.box.all rfl
theorem bldTwo {H : Heap} {p0 p1 p2 p3 p4 q0 q1 q2 q3 q4 : Value} : bld [.slice none 0 0, .slice none 0 0, .slice none 0 0, .slice none 0 0, .slice none 0 0, .slice none 0 0, .slice none 0 0, .slice none 0 0, .slice none 0 0, .slice none 0 0] [(0, 5, .agg [p0, p1, p2, p3, p4].toArray), (5, 5, .agg [q0, q1, q2, q3, q4].toArray)] H = some (.agg ([p0, p1, p2, p3, p4] ++ [q0, q1, q2, q3, q4]).toArray, H) := rfl
theorem known_J1 {X : Heap} {x1 : Value} {b4 b6 i : Nat} {g h : Gr} {p0 p1 p2 p3 p4 q0 q1 q2 q3 q4 : Value} (h4 : BG X b4 g p0 p1 p2 p3 p4) (h6 : BG X b6 h q0 q1 q2 q3 q4) (fg : Fits g) (fh : Fits h) (hi : i < 12) :
    ∃ X', Keep (all X) X X' ∧ ∀ r, Ev (fun n m => f9_L1 real (AC n) n m x1 (ptr b4 0) (.int .i64 ((i + 1 : Nat) : Int)) X') r → Ev (fun n m => f9_J1 real (AC n) n (f9_L1 real (AC n) n m) x1 (ptr b4 0) (.int .i64 (i : Int)) (ptr b6 0) X) r := by
  obtain ⟨X1, a1, a2⟩ := grammars_law h6.rep fh
  have h41 := h4.up a2
  have h61 := h6.up a2
  obtain ⟨X2, c1, c2⟩ := apart_law h41.rep h61.rep fg fh
  have h42 := h41.up c2
  have h62 := h61.up c2
  obtain ⟨X3, d1, d2⟩ := apart_law h62.rep h42.rep fh fg
  have h43 := h42.up d2
  have h63 := h62.up d2
  obtain ⟨X4, e1, e2⟩ := kinds_law (H := X3) (v1 := nilS) (v2 := nilS) (d := []) (n1 := 0) (xs := []) Sl.nil (by simp) (by simp) ⟨[], Sl.nil, .nil⟩ (by decide) h43.rep h63.rep fg fh
  refine ⟨X4, a2.tr (c2.tr (d2.tr e2)), fun r hr => ?_⟩
  simp only [f9_J1, real_b, real_i, real_c, chk_t, bnd_some, bnd_up, iff_t, iff_f, gd_t, gd_f, wd_b, wd_u, pick_t, pick_f, b_lss, b_leq, b_gtr, b_geq, b_eql, b_neq, b_seql, b_sneq, b_add, b_sub, u_not, nilC_ptr, fAddr_ptr, Nat.zero_add, extr0, extr1, extr2, lenStr, decide_true, decide_false, bt_tt, bt_tf, bt_ft, bt_ff, bt_bne, Bool.not_true, Bool.not_false, Int.reduceBEq, Int.reduceBNe, h6.ld]
  refine Ev.callC a1 ?_
  simp only [real_b, real_i, real_c, chk_t, bnd_some, bnd_up, iff_t, iff_f, gd_t, gd_f, wd_b, wd_u, pick_t, pick_f, b_lss, b_leq, b_gtr, b_geq, b_eql, b_neq, b_seql, b_sneq, b_add, b_sub, u_not, nilC_ptr, fAddr_ptr, Nat.zero_add, extr0, extr1, extr2, lenStr, decide_true, decide_false, bt_tt, bt_tf, bt_ft, bt_ff, bt_bne, Bool.not_true, Bool.not_false, Int.reduceBEq, Int.reduceBNe, h41.ld, h61.ld]
  refine Ev.callC c1 ?_
  simp only [real_b, real_i, real_c, chk_t, bnd_some, bnd_up, iff_t, iff_f, gd_t, gd_f, wd_b, wd_u, pick_t, pick_f, b_lss, b_leq, b_gtr, b_geq, b_eql, b_neq, b_seql, b_sneq, b_add, b_sub, u_not, nilC_ptr, fAddr_ptr, Nat.zero_add, extr0, extr1, extr2, lenStr, decide_true, decide_false, bt_tt, bt_tf, bt_ft, bt_ff, bt_bne, Bool.not_true, Bool.not_false, Int.reduceBEq, Int.reduceBNe, h42.ld, h62.ld]
  refine Ev.callC d1 ?_
  simp only [real_b, real_i, real_c, chk_t, bnd_some, bnd_up, iff_t, iff_f, gd_t, gd_f, wd_b, wd_u, pick_t, pick_f, b_lss, b_leq, b_gtr, b_geq, b_eql, b_neq, b_seql, b_sneq, b_add, b_sub, u_not, nilC_ptr, fAddr_ptr, Nat.zero_add, extr0, extr1, extr2, lenStr, decide_true, decide_false, bt_tt, bt_tf, bt_ft, bt_ff, bt_bne, Bool.not_true, Bool.not_false, Int.reduceBEq, Int.reduceBNe, h43.ld, h63.ld, bldTwo]
  refine Ev.callC e1 ?_
  simp only [real_b, real_i, real_c, chk_t, bnd_some, bnd_up, iff_t, iff_f, gd_t, gd_f, wd_b, wd_u, pick_t, pick_f, b_lss, b_leq, b_gtr, b_geq, b_eql, b_neq, b_seql, b_sneq, b_add, b_sub, u_not, nilC_ptr, fAddr_ptr, Nat.zero_add, extr0, extr1, extr2, lenStr, decide_true, decide_false, bt_tt, bt_tf, bt_ft, bt_ff, bt_bne, Bool.not_true, Bool.not_false, Int.reduceBEq, Int.reduceBNe, idx_up (show i < 9223372036854775807 by omega)]
  exact hr
end Go.Eng

/- KeysKnown: twelve turned grammars. -/
set_option linter.unusedVariables false
set_option linter.unusedSimpArgs false
namespace Go.Eng
open Go Go.Proofs

theorem push_updE {H : Heap} {a b : Blk} : (H.push a).upd H.n (some b) = H.push b := by
  unfold Heap.push Heap.upd
  congr 1
  funext i
  by_cases h : i = H.n <;> simp [h]
theorem chap_fits : Fits chap := by
  refine ⟨⟨by decide, by decide, by decide, by decide, by decide, ?_, ?_⟩, by decide, by decide⟩
  · unfold ptsOk; decide
  · decide
theorem lv4 {Q : Nat → Prop} {H : Heap} {c : List Value} (h : RpL Q H chap.levels c) : c = [.int .i64 0, .int .i64 0, .int .i64 0, .int .i64 0] := by
  cases h with
  | cons h t =>
    obtain ⟨rfl, _⟩ := rep_lv h
    cases t with
    | cons h' t' =>
      obtain ⟨rfl, _⟩ := rep_lv h'
      cases t'
      rfl
theorem pd8 {Q : Nat → Prop} {H : Heap} {c : List Value} (h : RpL Q H chap.prods c) : ∃ s s', c = [.int .i64 0, s, .int .i64 0, .int .i64 0, .int .i64 1, s', .int .i64 1, .int .i64 1] ∧ Sli Q H [(3 : Int)] s ∧ Sli Q H [(1 : Int)] s' := by
  cases h with
  | cons h t =>
    obtain ⟨s, rfl, h1, _⟩ := rep_pd h
    cases t with
    | cons h' t' =>
      obtain ⟨s', rfl, h2, _⟩ := rep_pd h'
      cases t'
      exact ⟨s, s', rfl, h1, h2⟩
theorem lvs {Q : Nat → Prop} {X : Heap} {a b c d : Int} (ha : inI a) (hb : inI b) (hc : inI c) (hd : inI d) : RpL Q X [(⟨a, b⟩ : Lv), ⟨c, d⟩] [.int .i64 a, .int .i64 b, .int .i64 c, .int .i64 d] :=
  .cons (c := [.int .i64 a, .int .i64 b]) (rep_lv_mk (x := ⟨a, b⟩) ha hb) (.cons (c := [.int .i64 c, .int .i64 d]) (rep_lv_mk (x := ⟨c, d⟩) hc hd) .nil)
theorem pds {Q : Nat → Prop} {X : Heap} {s s' : Value} {l l' : List Int} {a b c d e f : Int} (hs : Sli Q X l s) (hs' : Sli Q X l' s') (ha : inI a) (hb : inI b) (hc : inI c) (hd : inI d) (he : inI e) (hf : inI f) : RpL Q X [(⟨a, l, ⟨b, c⟩⟩ : Pd), ⟨d, l', ⟨e, f⟩⟩] [.int .i64 a, s, .int .i64 b, .int .i64 c, .int .i64 d, s', .int .i64 e, .int .i64 f] :=
  .cons (c := [.int .i64 a, s, .int .i64 b, .int .i64 c]) (rep_pd_mk (x := ⟨a, l, ⟨b, c⟩⟩) hs ha hb hc) (.cons (c := [.int .i64 d, s', .int .i64 e, .int .i64 f]) (rep_pd_mk (x := ⟨d, l', ⟨e, f⟩⟩) hs' hd he hf) .nil)
theorem i0 : inI 0 := ⟨by decide, by decide⟩
theorem i1 : inI 1 := ⟨by decide, by decide⟩
/-- What has been made when the turning begins. -/
theorem known_start {X : Heap} {b4 : Nat} {p0 p1 p2 p3 p4 : Value} (h4 : BG X b4 chap p0 p1 p2 p3 p4) :
    ∃ w0 w1 w2 w3 w4 X1 X2 c0 c1 c2 c3 c4 Rq, Cl 20 [.agg [p0, p1, p2, p3, p4].toArray] X (.agg [w0, w1, w2, w3, w4].toArray) X1 ∧ newV [nilS, nilS, nilS, nilS, nilS] X1 = some (ptr X1.n 0, X1.push ⟨[nilS, nilS, nilS, nilS, nilS], 1, true⟩) ∧
      stV 5 (ptr X1.n 0) (.agg [w0, w1, w2, w3, w4].toArray) (X1.push ⟨[nilS, nilS, nilS, nilS, nilS], 1, true⟩) = some (undef, X2) ∧ X2.get X1.n = some ⟨[w0, w1, w2, w3, w4], 1, true⟩ ∧ X1.n < X2.n ∧ X.n ≤ X1.n ∧ Keep (all X) X X2 ∧
      [w0, w1, w2, w3, w4].all oneC = true ∧ OG (fun b => all X b ∨ b = X1.n) X2 chap w0 w1 w2 w3 w4 c0 c1 c2 c3 c4 Rq := by
  obtain ⟨w0, w1, w2, w3, w4, X1, c0, c1, c2, c3, c4, Rq, a1, a2, og⟩ := copy_own h4.rep chap_fits.s
  have hone : [w0, w1, w2, w3, w4].all oneC = true := by
    simp only [List.all_cons, List.all_nil, Bool.and_true, Bool.and_eq_true]
    exact ⟨og.a0.oneC.1, og.a1.oneC.1, og.a2.oneC.1, og.a3.oneC.1, og.a4.oneC.1⟩
  exact ⟨w0, w1, w2, w3, w4, X1, X1.push ⟨[w0, w1, w2, w3, w4], 1, true⟩, c0, c1, c2, c3, c4, Rq, a1, newV_box rfl, (push_st (H := X1) (n := 5) (cs := [nilS, nilS, nilS, nilS, nilS]) (ds := [w0, w1, w2, w3, w4]) rfl rfl hone).trans (by rw [push_updE]), push_self, by simp [push_n], a2.1, a2.trans (push_keep.mono (upA a2)), hone, og.boxed⟩
/-- What stands when the turning is done. -/
theorem known_done {X X1 X2 X3 : Heap} {b4 : Nat} {p0 p1 p2 p3 p4 : Value} (h4 : BG X b4 chap p0 p1 p2 p3 p4) (kx : Keep (all X) X X2) (hn : X1.n < X2.n) (k : Keep (fun b => all X b ∨ b = X1.n) X2 X3) {h : Gr} {q0 q1 q2 q3 q4 : Value} (hb : X2.get X1.n = some ⟨[q0, q1, q2, q3, q4], 1, true⟩) {Q : Nat → Prop} (g5 : G5 (fun b => Q b ∧ b < X3.n) X3 h q0 q1 q2 q3 q4) : Keep (all X) X X3 ∧ BG X3 b4 chap p0 p1 p2 p3 p4 ∧ BG X3 X1.n h q0 q1 q2 q3 q4 := by
  have kk : Keep (all X) X X3 := kx.trans (k.mono fun b hb => .inl hb)
  exact ⟨kk, h4.up kk, ⟨⟨Nat.lt_of_lt_of_le hn k.1, 1, true, by rw [k.2 _ (.inr rfl)]; exact hb⟩, (g5.mono fun b hb => hb.2).rep⟩⟩
theorem known_c0 {X : Heap} {b4 : Nat} {x1 p0 p1 p2 p3 p4 : Value} (h4 : BG X b4 chap p0 p1 p2 p3 p4) : ∃ X', Keep (all X) X X' ∧ ∀ r, Ev (fun n m => f9_L1 real (AC n) n m x1 (ptr b4 0) (.int .i64 ((0 + 1 : Nat) : Int)) X') r → Ev (fun n m => f9_L1 real (AC n) n m x1 (ptr b4 0) (.int .i64 ((0 : Nat) : Int)) X) r := by
  obtain ⟨w0, w1, w2, w3, w4, X1, X2, c0, c1, c2, c3, c4, Rq, a1, nw, st, gb, hn, hn1, kx, hone, og⟩ := known_start h4
  have bx : Box (fun b => b = X1.n) X2 X1.n [w0, w1, w2, w3, w4] := ⟨rfl, _, _, gb⟩
  obtain ⟨b, X3, e1, e2, k, hb, g5⟩ := og.set0 (i := 1) (by decide) ⟨#[109]⟩
  obtain ⟨kk, g4, g6⟩ := known_done h4 kx hn (k.mono fun x hx he => (og.a0.at hb).1 (he ▸ hx)) gb g5
  obtain ⟨X', k', jj⟩ := known_J1 (x1 := x1) (i := 0) g4 g6 chap_fits (by
    refine ⟨⟨by decide, by decide, by decide, by decide, by decide, ?_, ?_⟩, by decide, by decide⟩
    · unfold ptsOk; decide
    · decide) (by omega)
  refine ⟨X', kk.trans (k'.mono (upA kk)), fun r hr => ?_⟩
  refine Ev.step (fun n m => f9_L1.eq_2 _ _ _ _ _ _ _ _) ?_
  simp only [real_b, real_i, real_c, chk_t, bnd_some, bnd_up, iff_t, iff_f, gd_t, gd_f, wd_b, wd_u, pick_t, pick_f, b_lss, b_leq, b_gtr, b_geq, b_eql, b_neq, b_seql, b_sneq, b_add, b_sub, u_not, nilC_ptr, fAddr_ptr, Nat.zero_add, extr0, extr1, extr2, lenStr, decide_true, decide_false, bt_tt, bt_tf, bt_ft, bt_ff, bt_bne, Bool.not_true, Bool.not_false, Int.reduceBEq, Int.reduceBNe, Int.cast_ofNat_Int, show ((0 : Int) < 12) = True by simp, h4.ld]
  refine Ev.callC a1 ?_
  simp only [real_b, real_i, real_c, chk_t, bnd_some, bnd_up, iff_t, iff_f, gd_t, gd_f, wd_b, wd_u, pick_t, pick_f, b_lss, b_leq, b_gtr, b_geq, b_eql, b_neq, b_seql, b_sneq, b_add, b_sub, u_not, nilC_ptr, fAddr_ptr, Nat.zero_add, extr0, extr1, extr2, lenStr, decide_true, decide_false, bt_tt, bt_tf, bt_ft, bt_ff, bt_bne, Bool.not_true, Bool.not_false, Int.reduceBEq, Int.reduceBNe, show newV [.slice none 0 0, .slice none 0 0, .slice none 0 0, .slice none 0 0, .slice none 0 0] X1 = _ from nw, st, bx.ld (k := 0) (v := w0) rfl, show iAddrS 1 w0 (.int .i64 1) = some (ptr b 1) from e1, e2]
  exact jj r hr
end Go.Eng

/- KeysKnown: more turned grammars. -/
set_option linter.unusedVariables false
set_option linter.unusedSimpArgs false
namespace Go.Eng
open Go Go.Proofs

theorem known_c1 {X : Heap} {b4 : Nat} {x1 p0 p1 p2 p3 p4 : Value} (h4 : BG X b4 chap p0 p1 p2 p3 p4) : ∃ X', Keep (all X) X X' ∧ ∀ r, Ev (fun n m => f9_L1 real (AC n) n m x1 (ptr b4 0) (.int .i64 ((1 + 1 : Nat) : Int)) X') r → Ev (fun n m => f9_L1 real (AC n) n m x1 (ptr b4 0) (.int .i64 ((1 : Nat) : Int)) X) r := by
  obtain ⟨w0, w1, w2, w3, w4, X1, X2, c0, c1, c2, c3, c4, Rq, a1, nw, st, gb, hn, hn1, kx, hone, og⟩ := known_start h4
  have bx : Box (fun b => b = X1.n) X2 X1.n [w0, w1, w2, w3, w4] := ⟨rfl, _, _, gb⟩
  obtain ⟨b, X3, e1, e2, k, hb, g5⟩ := og.set3 (i := 1) (by decide) ⟨#[102]⟩
  obtain ⟨kk, g4, g6⟩ := known_done h4 kx hn (k.mono fun x hx he => (og.a3.at hb).1 (he ▸ hx)) gb g5
  obtain ⟨X', k', jj⟩ := known_J1 (x1 := x1) (i := 1) g4 g6 chap_fits (by
    refine ⟨⟨by decide, by decide, by decide, by decide, by decide, ?_, ?_⟩, by decide, by decide⟩
    · unfold ptsOk; decide
    · decide) (by omega)
  refine ⟨X', kk.trans (k'.mono (upA kk)), fun r hr => ?_⟩
  refine Ev.step (fun n m => f9_L1.eq_2 _ _ _ _ _ _ _ _) ?_
  simp only [real_b, real_i, real_c, chk_t, bnd_some, bnd_up, iff_t, iff_f, gd_t, gd_f, wd_b, wd_u, pick_t, pick_f, b_lss, b_leq, b_gtr, b_geq, b_eql, b_neq, b_seql, b_sneq, b_add, b_sub, u_not, nilC_ptr, fAddr_ptr, Nat.zero_add, extr0, extr1, extr2, lenStr, decide_true, decide_false, bt_tt, bt_tf, bt_ft, bt_ff, bt_bne, Bool.not_true, Bool.not_false, Int.reduceBEq, Int.reduceBNe, Int.cast_ofNat_Int, show ((1 : Int) < 12) = True by simp, h4.ld]
  refine Ev.callC a1 ?_
  simp only [real_b, real_i, real_c, chk_t, bnd_some, bnd_up, iff_t, iff_f, gd_t, gd_f, wd_b, wd_u, pick_t, pick_f, b_lss, b_leq, b_gtr, b_geq, b_eql, b_neq, b_seql, b_sneq, b_add, b_sub, u_not, nilC_ptr, fAddr_ptr, Nat.zero_add, extr0, extr1, extr2, lenStr, decide_true, decide_false, bt_tt, bt_tf, bt_ft, bt_ff, bt_bne, Bool.not_true, Bool.not_false, Int.reduceBEq, Int.reduceBNe, show newV [.slice none 0 0, .slice none 0 0, .slice none 0 0, .slice none 0 0, .slice none 0 0] X1 = _ from nw, st, bx.ld (k := 3) (v := w3) rfl, show iAddrS 1 w3 (.int .i64 1) = some (ptr b 1) from e1, e2]
  exact jj r hr
theorem known_c3 {X : Heap} {b4 : Nat} {x1 p0 p1 p2 p3 p4 : Value} (h4 : BG X b4 chap p0 p1 p2 p3 p4) : ∃ X', Keep (all X) X X' ∧ ∀ r, Ev (fun n m => f9_L1 real (AC n) n m x1 (ptr b4 0) (.int .i64 ((3 + 1 : Nat) : Int)) X') r → Ev (fun n m => f9_L1 real (AC n) n m x1 (ptr b4 0) (.int .i64 ((3 : Nat) : Int)) X) r := by
  obtain ⟨w0, w1, w2, w3, w4, X1, X2, c0, c1, c2, c3, c4, Rq, a1, nw, st, gb, hn, hn1, kx, hone, og⟩ := known_start h4
  have bx : Box (fun b => b = X1.n) X2 X1.n [w0, w1, w2, w3, w4] := ⟨rfl, _, _, gb⟩
  have hc := lv4 og.r1
  subst hc
  obtain ⟨b, X3, e1, e2, k, hb, g5⟩ := og.set1 (i := 1) (o := 0) (n := 1) (ls := [⟨0, 0⟩, ⟨1, 0⟩]) (by decide) (by decide) rfl (lvs i0 i0 i1 i0)
  obtain ⟨kk, g4, g6⟩ := known_done h4 kx hn (k.mono fun x hx he => (og.a1.at hb).1 (he ▸ hx)) gb g5
  obtain ⟨X', k', jj⟩ := known_J1 (x1 := x1) (i := 3) g4 g6 chap_fits (by
    refine ⟨⟨by decide, by decide, by decide, by decide, by decide, ?_, ?_⟩, by decide, by decide⟩
    · unfold ptsOk; decide
    · decide) (by omega)
  refine ⟨X', kk.trans (k'.mono (upA kk)), fun r hr => ?_⟩
  refine Ev.step (fun n m => f9_L1.eq_2 _ _ _ _ _ _ _ _) ?_
  simp only [real_b, real_i, real_c, chk_t, bnd_some, bnd_up, iff_t, iff_f, gd_t, gd_f, wd_b, wd_u, pick_t, pick_f, b_lss, b_leq, b_gtr, b_geq, b_eql, b_neq, b_seql, b_sneq, b_add, b_sub, u_not, nilC_ptr, fAddr_ptr, Nat.zero_add, extr0, extr1, extr2, lenStr, decide_true, decide_false, bt_tt, bt_tf, bt_ft, bt_ff, bt_bne, Bool.not_true, Bool.not_false, Int.reduceBEq, Int.reduceBNe, Int.cast_ofNat_Int, show ((3 : Int) < 12) = True by simp, h4.ld]
  refine Ev.callC a1 ?_
  simp only [real_b, real_i, real_c, chk_t, bnd_some, bnd_up, iff_t, iff_f, gd_t, gd_f, wd_b, wd_u, pick_t, pick_f, b_lss, b_leq, b_gtr, b_geq, b_eql, b_neq, b_seql, b_sneq, b_add, b_sub, u_not, nilC_ptr, fAddr_ptr, Nat.zero_add, extr0, extr1, extr2, lenStr, decide_true, decide_false, bt_tt, bt_tf, bt_ft, bt_ff, bt_bne, Bool.not_true, Bool.not_false, Int.reduceBEq, Int.reduceBNe, show newV [.slice none 0 0, .slice none 0 0, .slice none 0 0, .slice none 0 0, .slice none 0 0] X1 = _ from nw, st, bx.ld (k := 1) (v := w1) rfl, show iAddrS 2 w1 (.int .i64 1) = some (ptr b 2) from e1, Nat.add_zero, show stV 1 (ptr b 2) (.int .i64 (1)) X2 = some (undef, X3) from e2]
  exact jj r hr
theorem known_c4 {X : Heap} {b4 : Nat} {x1 p0 p1 p2 p3 p4 : Value} (h4 : BG X b4 chap p0 p1 p2 p3 p4) : ∃ X', Keep (all X) X X' ∧ ∀ r, Ev (fun n m => f9_L1 real (AC n) n m x1 (ptr b4 0) (.int .i64 ((4 + 1 : Nat) : Int)) X') r → Ev (fun n m => f9_L1 real (AC n) n m x1 (ptr b4 0) (.int .i64 ((4 : Nat) : Int)) X) r := by
  obtain ⟨w0, w1, w2, w3, w4, X1, X2, c0, c1, c2, c3, c4, Rq, a1, nw, st, gb, hn, hn1, kx, hone, og⟩ := known_start h4
  have bx : Box (fun b => b = X1.n) X2 X1.n [w0, w1, w2, w3, w4] := ⟨rfl, _, _, gb⟩
  have hc := lv4 og.r1
  subst hc
  obtain ⟨b, X3, e1, e2, k, hb, g5⟩ := og.set1 (i := 1) (o := 1) (n := -1) (ls := [⟨0, 0⟩, ⟨0, -1⟩]) (by decide) (by decide) rfl (lvs i0 i0 i0 ⟨by decide, by decide⟩)
  obtain ⟨kk, g4, g6⟩ := known_done h4 kx hn (k.mono fun x hx he => (og.a1.at hb).1 (he ▸ hx)) gb g5
  obtain ⟨X', k', jj⟩ := known_J1 (x1 := x1) (i := 4) g4 g6 chap_fits (by
    refine ⟨⟨by decide, by decide, by decide, by decide, by decide, ?_, ?_⟩, by decide, by decide⟩
    · unfold ptsOk; decide
    · decide) (by omega)
  refine ⟨X', kk.trans (k'.mono (upA kk)), fun r hr => ?_⟩
  refine Ev.step (fun n m => f9_L1.eq_2 _ _ _ _ _ _ _ _) ?_
  simp only [real_b, real_i, real_c, chk_t, bnd_some, bnd_up, iff_t, iff_f, gd_t, gd_f, wd_b, wd_u, pick_t, pick_f, b_lss, b_leq, b_gtr, b_geq, b_eql, b_neq, b_seql, b_sneq, b_add, b_sub, u_not, nilC_ptr, fAddr_ptr, Nat.zero_add, extr0, extr1, extr2, lenStr, decide_true, decide_false, bt_tt, bt_tf, bt_ft, bt_ff, bt_bne, Bool.not_true, Bool.not_false, Int.reduceBEq, Int.reduceBNe, Int.cast_ofNat_Int, show ((4 : Int) < 12) = True by simp, h4.ld]
  refine Ev.callC a1 ?_
  simp only [real_b, real_i, real_c, chk_t, bnd_some, bnd_up, iff_t, iff_f, gd_t, gd_f, wd_b, wd_u, pick_t, pick_f, b_lss, b_leq, b_gtr, b_geq, b_eql, b_neq, b_seql, b_sneq, b_add, b_sub, u_not, nilC_ptr, fAddr_ptr, Nat.zero_add, extr0, extr1, extr2, lenStr, decide_true, decide_false, bt_tt, bt_tf, bt_ft, bt_ff, bt_bne, Bool.not_true, Bool.not_false, Int.reduceBEq, Int.reduceBNe, show newV [.slice none 0 0, .slice none 0 0, .slice none 0 0, .slice none 0 0, .slice none 0 0] X1 = _ from nw, st, bx.ld (k := 1) (v := w1) rfl, show iAddrS 2 w1 (.int .i64 1) = some (ptr b 2) from e1, Nat.add_zero, show stV 1 (ptr b 3) (.int .i64 (-1)) X2 = some (undef, X3) from e2]
  exact jj r hr
theorem known_c6 {X : Heap} {b4 : Nat} {x1 p0 p1 p2 p3 p4 : Value} (h4 : BG X b4 chap p0 p1 p2 p3 p4) : ∃ X', Keep (all X) X X' ∧ ∀ r, Ev (fun n m => f9_L1 real (AC n) n m x1 (ptr b4 0) (.int .i64 ((6 + 1 : Nat) : Int)) X') r → Ev (fun n m => f9_L1 real (AC n) n m x1 (ptr b4 0) (.int .i64 ((6 : Nat) : Int)) X) r := by
  obtain ⟨w0, w1, w2, w3, w4, X1, X2, c0, c1, c2, c3, c4, Rq, a1, nw, st, gb, hn, hn1, kx, hone, og⟩ := known_start h4
  have bx : Box (fun b => b = X1.n) X2 X1.n [w0, w1, w2, w3, w4] := ⟨rfl, _, _, gb⟩
  obtain ⟨s, s', rfl, hs, hs'⟩ := pd8 og.r4
  obtain ⟨b, X3, e1, e2, k, hb, g5⟩ := og.set4 (i := 1) (o := 0) (y := .int .i64 9007199254740992) (ps := [⟨0, [3], ⟨0, 0⟩⟩, ⟨9007199254740992, [1], ⟨1, 1⟩⟩]) (by decide) (by decide) ⟨rfl, rfl⟩ rfl (fun hk => pds (hs.keep hk) (hs'.keep hk) i0 i0 i0 ⟨by decide, by decide⟩ i1 i1)
  obtain ⟨kk, g4, g6⟩ := known_done h4 kx hn (k.mono fun x hx he => (og.a4.at hb).1 (.inl (he ▸ hx))) gb g5
  obtain ⟨X', k', jj⟩ := known_J1 (x1 := x1) (i := 6) g4 g6 chap_fits (by
    refine ⟨⟨by decide, by decide, by decide, by decide, by decide, ?_, ?_⟩, by decide, by decide⟩
    · unfold ptsOk; decide
    · decide) (by omega)
  refine ⟨X', kk.trans (k'.mono (upA kk)), fun r hr => ?_⟩
  refine Ev.step (fun n m => f9_L1.eq_2 _ _ _ _ _ _ _ _) ?_
  simp only [real_b, real_i, real_c, chk_t, bnd_some, bnd_up, iff_t, iff_f, gd_t, gd_f, wd_b, wd_u, pick_t, pick_f, b_lss, b_leq, b_gtr, b_geq, b_eql, b_neq, b_seql, b_sneq, b_add, b_sub, u_not, nilC_ptr, fAddr_ptr, Nat.zero_add, extr0, extr1, extr2, lenStr, decide_true, decide_false, bt_tt, bt_tf, bt_ft, bt_ff, bt_bne, Bool.not_true, Bool.not_false, Int.reduceBEq, Int.reduceBNe, Int.cast_ofNat_Int, show ((6 : Int) < 12) = True by simp, h4.ld]
  refine Ev.callC a1 ?_
  simp only [real_b, real_i, real_c, chk_t, bnd_some, bnd_up, iff_t, iff_f, gd_t, gd_f, wd_b, wd_u, pick_t, pick_f, b_lss, b_leq, b_gtr, b_geq, b_eql, b_neq, b_seql, b_sneq, b_add, b_sub, u_not, nilC_ptr, fAddr_ptr, Nat.zero_add, extr0, extr1, extr2, lenStr, decide_true, decide_false, bt_tt, bt_tf, bt_ft, bt_ff, bt_bne, Bool.not_true, Bool.not_false, Int.reduceBEq, Int.reduceBNe, show newV [.slice none 0 0, .slice none 0 0, .slice none 0 0, .slice none 0 0, .slice none 0 0] X1 = _ from nw, st, bx.ld (k := 4) (v := w4) rfl, show iAddrS 4 w4 (.int .i64 1) = some (ptr b 4) from e1, Nat.add_zero, show stV 1 (ptr b 4) (.int .i64 9007199254740992) X2 = some (undef, X3) from e2]
  exact jj r hr
theorem known_c7 {X : Heap} {b4 : Nat} {x1 p0 p1 p2 p3 p4 : Value} (h4 : BG X b4 chap p0 p1 p2 p3 p4) : ∃ X', Keep (all X) X X' ∧ ∀ r, Ev (fun n m => f9_L1 real (AC n) n m x1 (ptr b4 0) (.int .i64 ((7 + 1 : Nat) : Int)) X') r → Ev (fun n m => f9_L1 real (AC n) n m x1 (ptr b4 0) (.int .i64 ((7 : Nat) : Int)) X) r := by
  obtain ⟨w0, w1, w2, w3, w4, X1, X2, c0, c1, c2, c3, c4, Rq, a1, nw, st, gb, hn, hn1, kx, hone, og⟩ := known_start h4
  have bx : Box (fun b => b = X1.n) X2 X1.n [w0, w1, w2, w3, w4] := ⟨rfl, _, _, gb⟩
  obtain ⟨s, s', rfl, hs, hs'⟩ := pd8 og.r4
  obtain ⟨b, X3, e1, e2, k, hb, g5⟩ := og.set4 (i := 1) (o := 1) (y := .slice none 0 0) (ps := [⟨0, [3], ⟨0, 0⟩⟩, ⟨1, [], ⟨1, 1⟩⟩]) (by decide) (by decide) ⟨rfl, rfl⟩ rfl (fun hk => pds (hs.keep hk) ⟨[], Sl.nil, .nil⟩ i0 i0 i0 i1 i1 i1)
  obtain ⟨kk, g4, g6⟩ := known_done h4 kx hn (k.mono fun x hx he => (og.a4.at hb).1 (.inl (he ▸ hx))) gb g5
  obtain ⟨X', k', jj⟩ := known_J1 (x1 := x1) (i := 7) g4 g6 chap_fits (by
    refine ⟨⟨by decide, by decide, by decide, by decide, by decide, ?_, ?_⟩, by decide, by decide⟩
    · unfold ptsOk; decide
    · decide) (by omega)
  refine ⟨X', kk.trans (k'.mono (upA kk)), fun r hr => ?_⟩
  refine Ev.step (fun n m => f9_L1.eq_2 _ _ _ _ _ _ _ _) ?_
  simp only [real_b, real_i, real_c, chk_t, bnd_some, bnd_up, iff_t, iff_f, gd_t, gd_f, wd_b, wd_u, pick_t, pick_f, b_lss, b_leq, b_gtr, b_geq, b_eql, b_neq, b_seql, b_sneq, b_add, b_sub, u_not, nilC_ptr, fAddr_ptr, Nat.zero_add, extr0, extr1, extr2, lenStr, decide_true, decide_false, bt_tt, bt_tf, bt_ft, bt_ff, bt_bne, Bool.not_true, Bool.not_false, Int.reduceBEq, Int.reduceBNe, Int.cast_ofNat_Int, show ((7 : Int) < 12) = True by simp, h4.ld]
  refine Ev.callC a1 ?_
  simp only [real_b, real_i, real_c, chk_t, bnd_some, bnd_up, iff_t, iff_f, gd_t, gd_f, wd_b, wd_u, pick_t, pick_f, b_lss, b_leq, b_gtr, b_geq, b_eql, b_neq, b_seql, b_sneq, b_add, b_sub, u_not, nilC_ptr, fAddr_ptr, Nat.zero_add, extr0, extr1, extr2, lenStr, decide_true, decide_false, bt_tt, bt_tf, bt_ft, bt_ff, bt_bne, Bool.not_true, Bool.not_false, Int.reduceBEq, Int.reduceBNe, show newV [.slice none 0 0, .slice none 0 0, .slice none 0 0, .slice none 0 0, .slice none 0 0] X1 = _ from nw, st, bx.ld (k := 4) (v := w4) rfl, show iAddrS 4 w4 (.int .i64 1) = some (ptr b 4) from e1, Nat.add_zero, show stV 1 (ptr b 5) (.slice none 0 0) X2 = some (undef, X3) from e2]
  exact jj r hr
theorem known_c8 {X : Heap} {b4 : Nat} {x1 p0 p1 p2 p3 p4 : Value} (h4 : BG X b4 chap p0 p1 p2 p3 p4) : ∃ X', Keep (all X) X X' ∧ ∀ r, Ev (fun n m => f9_L1 real (AC n) n m x1 (ptr b4 0) (.int .i64 ((8 + 1 : Nat) : Int)) X') r → Ev (fun n m => f9_L1 real (AC n) n m x1 (ptr b4 0) (.int .i64 ((8 : Nat) : Int)) X) r := by
  obtain ⟨w0, w1, w2, w3, w4, X1, X2, c0, c1, c2, c3, c4, Rq, a1, nw, st, gb, hn, hn1, kx, hone, og⟩ := known_start h4
  have bx : Box (fun b => b = X1.n) X2 X1.n [w0, w1, w2, w3, w4] := ⟨rfl, _, _, gb⟩
  obtain ⟨s, s', rfl, hs, hs'⟩ := pd8 og.r4
  obtain ⟨b, X3, e1, e2, k, hb, g5⟩ := og.set4 (i := 1) (o := 3) (y := .int .i64 2) (ps := [⟨0, [3], ⟨0, 0⟩⟩, ⟨1, [1], ⟨1, 2⟩⟩]) (by decide) (by decide) ⟨rfl, rfl⟩ rfl (fun hk => pds (hs.keep hk) (hs'.keep hk) i0 i0 i0 i1 i1 ⟨by decide, by decide⟩)
  obtain ⟨kk, g4, g6⟩ := known_done h4 kx hn (k.mono fun x hx he => (og.a4.at hb).1 (.inl (he ▸ hx))) gb g5
  obtain ⟨X', k', jj⟩ := known_J1 (x1 := x1) (i := 8) g4 g6 chap_fits (by
    refine ⟨⟨by decide, by decide, by decide, by decide, by decide, ?_, ?_⟩, by decide, by decide⟩
    · unfold ptsOk; decide
    · decide) (by omega)
  refine ⟨X', kk.trans (k'.mono (upA kk)), fun r hr => ?_⟩
  refine Ev.step (fun n m => f9_L1.eq_2 _ _ _ _ _ _ _ _) ?_
  simp only [real_b, real_i, real_c, chk_t, bnd_some, bnd_up, iff_t, iff_f, gd_t, gd_f, wd_b, wd_u, pick_t, pick_f, b_lss, b_leq, b_gtr, b_geq, b_eql, b_neq, b_seql, b_sneq, b_add, b_sub, u_not, nilC_ptr, fAddr_ptr, Nat.zero_add, extr0, extr1, extr2, lenStr, decide_true, decide_false, bt_tt, bt_tf, bt_ft, bt_ff, bt_bne, Bool.not_true, Bool.not_false, Int.reduceBEq, Int.reduceBNe, Int.cast_ofNat_Int, show ((8 : Int) < 12) = True by simp, h4.ld]
  refine Ev.callC a1 ?_
  simp only [real_b, real_i, real_c, chk_t, bnd_some, bnd_up, iff_t, iff_f, gd_t, gd_f, wd_b, wd_u, pick_t, pick_f, b_lss, b_leq, b_gtr, b_geq, b_eql, b_neq, b_seql, b_sneq, b_add, b_sub, u_not, nilC_ptr, fAddr_ptr, Nat.zero_add, extr0, extr1, extr2, lenStr, decide_true, decide_false, bt_tt, bt_tf, bt_ft, bt_ff, bt_bne, Bool.not_true, Bool.not_false, Int.reduceBEq, Int.reduceBNe, show newV [.slice none 0 0, .slice none 0 0, .slice none 0 0, .slice none 0 0, .slice none 0 0] X1 = _ from nw, st, bx.ld (k := 4) (v := w4) rfl, show iAddrS 4 w4 (.int .i64 1) = some (ptr b 4) from e1, Nat.add_zero, show stV 1 (ptr b 7) (.int .i64 2) X2 = some (undef, X3) from e2]
  exact jj r hr
end Go.Eng

/- KeysKnown: the last turned grammars. -/
set_option linter.unusedVariables false
set_option linter.unusedSimpArgs false
namespace Go.Eng
open Go Go.Proofs

theorem known_c2 {X : Heap} {b4 : Nat} {x1 p0 p1 p2 p3 p4 : Value} (h4 : BG X b4 chap p0 p1 p2 p3 p4) : ∃ X', Keep (all X) X X' ∧ ∀ r, Ev (fun n m => f9_L1 real (AC n) n m x1 (ptr b4 0) (.int .i64 ((2 + 1 : Nat) : Int)) X') r → Ev (fun n m => f9_L1 real (AC n) n m x1 (ptr b4 0) (.int .i64 ((2 : Nat) : Int)) X) r := by
  obtain ⟨w0, w1, w2, w3, w4, X1, X2, c0, c1, c2, c3, c4, Rq, a1, nw, st, gb, hn, hn1, kx, hone, og⟩ := known_start h4
  have bx : Box (fun b => b = X1.n) X2 X1.n [w0, w1, w2, w3, w4] := ⟨rfl, _, _, gb⟩
  have hR : Rb (fun b => all X b ∨ b = X1.n) X2 := fun b hb => by
    rcases hb with h | h
    · exact Nat.lt_of_lt_of_le h kx.1
    · omega
  obtain ⟨w, X3, e1, k, hw, g5⟩ := og.add2 hR (t := 1) (s := ⟨#[97]⟩) i1 (by decide)
  have gb3 : X3.get X1.n = some ⟨[w0, w1, w2, w3, w4], 1, true⟩ := by rw [k.2 _ (.inr rfl)]; exact gb
  have e2 : stV 1 (ptr X1.n 2) w X3 = some (undef, X3.upd X1.n (some ⟨[w0, w1, w, w3, w4], 1, true⟩)) := stV1_box gb3 (by simp) hw.2 hw.1
  have ku : Keep (fun b => b ≠ X1.n) X3 (X3.upd X1.n (some ⟨[w0, w1, w, w3, w4], 1, true⟩)) := upd_past'
  have kk : Keep (all X) X (X3.upd X1.n (some ⟨[w0, w1, w, w3, w4], 1, true⟩)) := kx.trans ((k.mono fun b hb => .inl hb).trans (ku.mono fun b hb => by have h : b < X.n := hb; omega))
  obtain ⟨X', k', jj⟩ := known_J1 (x1 := x1) (i := 2) (h4.up kk) ⟨⟨Nat.lt_of_lt_of_le hn k.1, 1, true, upd_self⟩, ((g5.keep (ku.mono fun b hb he => hb.1 (.inr he))).mono fun b hb => hb.2).rep⟩ chap_fits (by
    refine ⟨⟨by decide, by decide, by decide, by decide, by decide, ?_, ?_⟩, by decide, by decide⟩
    · unfold ptsOk; decide
    · decide) (by omega)
  have bp : bld [.int .i64 0, .string ⟨#[]⟩] [(0, 1, .int .i64 1), (1, 1, .string ⟨#[97]⟩)] X2 = some (.agg [.int .i64 (1), .string ⟨#[97]⟩].toArray, X2) := rfl
  have lp : bldS 2 1 [.int .i64 0, .string ⟨#[]⟩] [(0, 2, .agg [.int .i64 (1), .string ⟨#[97]⟩].toArray)] X2 = some (.slice (some ⟨X2.n, 0, none⟩) 1 1, X2.push ⟨[.int .i64 (1), .string ⟨#[97]⟩], 2, true⟩) := rfl
  refine ⟨X', kk.trans (k'.mono (upA kk)), fun r hr => ?_⟩
  refine Ev.step (fun n m => f9_L1.eq_2 _ _ _ _ _ _ _ _) ?_
  simp only [real_b, real_i, real_c, chk_t, bnd_some, bnd_up, iff_t, iff_f, gd_t, gd_f, wd_b, wd_u, pick_t, pick_f, b_lss, b_leq, b_gtr, b_geq, b_eql, b_neq, b_seql, b_sneq, b_add, b_sub, u_not, nilC_ptr, fAddr_ptr, Nat.zero_add, extr0, extr1, extr2, lenStr, decide_true, decide_false, bt_tt, bt_tf, bt_ft, bt_ff, bt_bne, Bool.not_true, Bool.not_false, Int.reduceBEq, Int.reduceBNe, Int.cast_ofNat_Int, show ((2 : Int) < 12) = True by simp, h4.ld]
  refine Ev.callC a1 ?_
  simp only [real_b, real_i, real_c, chk_t, bnd_some, bnd_up, iff_t, iff_f, gd_t, gd_f, wd_b, wd_u, pick_t, pick_f, b_lss, b_leq, b_gtr, b_geq, b_eql, b_neq, b_seql, b_sneq, b_add, b_sub, u_not, nilC_ptr, fAddr_ptr, Nat.zero_add, extr0, extr1, extr2, lenStr, decide_true, decide_false, bt_tt, bt_tf, bt_ft, bt_ff, bt_bne, Bool.not_true, Bool.not_false, Int.reduceBEq, Int.reduceBNe, show newV [.slice none 0 0, .slice none 0 0, .slice none 0 0, .slice none 0 0, .slice none 0 0] X1 = _ from nw, st, bx.ld (k := 2) (v := w2) rfl, bp, lp, e1, e2]
  exact jj r hr
theorem known_c10 {X : Heap} {b4 : Nat} {x1 p0 p1 p2 p3 p4 : Value} (h4 : BG X b4 chap p0 p1 p2 p3 p4) : ∃ X', Keep (all X) X X' ∧ ∀ r, Ev (fun n m => f9_L1 real (AC n) n m x1 (ptr b4 0) (.int .i64 ((10 + 1 : Nat) : Int)) X') r → Ev (fun n m => f9_L1 real (AC n) n m x1 (ptr b4 0) (.int .i64 ((10 : Nat) : Int)) X) r := by
  obtain ⟨w0, w1, w2, w3, w4, X1, X2, c0, c1, c2, c3, c4, Rq, a1, nw, st, gb, hn, hn1, kx, hone, og⟩ := known_start h4
  have bx : Box (fun b => b = X1.n) X2 X1.n [w0, w1, w2, w3, w4] := ⟨rfl, _, _, gb⟩
  have hR : Rb (fun b => all X b ∨ b = X1.n) X2 := fun b hb => by
    rcases hb with h | h
    · exact Nat.lt_of_lt_of_le h kx.1
    · omega
  obtain ⟨w, X3, e1, k, hw, g5⟩ := og.add2 hR (t := -1) (s := ⟨#[]⟩) ⟨by decide, by decide⟩ (by decide)
  have gb3 : X3.get X1.n = some ⟨[w0, w1, w2, w3, w4], 1, true⟩ := by rw [k.2 _ (.inr rfl)]; exact gb
  have e2 : stV 1 (ptr X1.n 2) w X3 = some (undef, X3.upd X1.n (some ⟨[w0, w1, w, w3, w4], 1, true⟩)) := stV1_box gb3 (by simp) hw.2 hw.1
  have ku : Keep (fun b => b ≠ X1.n) X3 (X3.upd X1.n (some ⟨[w0, w1, w, w3, w4], 1, true⟩)) := upd_past'
  have kk : Keep (all X) X (X3.upd X1.n (some ⟨[w0, w1, w, w3, w4], 1, true⟩)) := kx.trans ((k.mono fun b hb => .inl hb).trans (ku.mono fun b hb => by have h : b < X.n := hb; omega))
  obtain ⟨X', k', jj⟩ := known_J1 (x1 := x1) (i := 10) (h4.up kk) ⟨⟨Nat.lt_of_lt_of_le hn k.1, 1, true, upd_self⟩, ((g5.keep (ku.mono fun b hb he => hb.1 (.inr he))).mono fun b hb => hb.2).rep⟩ chap_fits (by
    refine ⟨⟨by decide, by decide, by decide, by decide, by decide, ?_, ?_⟩, by decide, by decide⟩
    · unfold ptsOk; decide
    · decide) (by omega)
  have bp : bld [.int .i64 0, .string ⟨#[]⟩] [(0, 1, .int .i64 (-1))] X2 = some (.agg [.int .i64 (-1), .string ⟨#[]⟩].toArray, X2) := rfl
  have lp : bldS 2 1 [.int .i64 0, .string ⟨#[]⟩] [(0, 2, .agg [.int .i64 (-1), .string ⟨#[]⟩].toArray)] X2 = some (.slice (some ⟨X2.n, 0, none⟩) 1 1, X2.push ⟨[.int .i64 (-1), .string ⟨#[]⟩], 2, true⟩) := rfl
  refine ⟨X', kk.trans (k'.mono (upA kk)), fun r hr => ?_⟩
  refine Ev.step (fun n m => f9_L1.eq_2 _ _ _ _ _ _ _ _) ?_
  simp only [real_b, real_i, real_c, chk_t, bnd_some, bnd_up, iff_t, iff_f, gd_t, gd_f, wd_b, wd_u, pick_t, pick_f, b_lss, b_leq, b_gtr, b_geq, b_eql, b_neq, b_seql, b_sneq, b_add, b_sub, u_not, nilC_ptr, fAddr_ptr, Nat.zero_add, extr0, extr1, extr2, lenStr, decide_true, decide_false, bt_tt, bt_tf, bt_ft, bt_ff, bt_bne, Bool.not_true, Bool.not_false, Int.reduceBEq, Int.reduceBNe, Int.cast_ofNat_Int, show ((10 : Int) < 12) = True by simp, h4.ld]
  refine Ev.callC a1 ?_
  simp only [real_b, real_i, real_c, chk_t, bnd_some, bnd_up, iff_t, iff_f, gd_t, gd_f, wd_b, wd_u, pick_t, pick_f, b_lss, b_leq, b_gtr, b_geq, b_eql, b_neq, b_seql, b_sneq, b_add, b_sub, u_not, nilC_ptr, fAddr_ptr, Nat.zero_add, extr0, extr1, extr2, lenStr, decide_true, decide_false, bt_tt, bt_tf, bt_ft, bt_ff, bt_bne, Bool.not_true, Bool.not_false, Int.reduceBEq, Int.reduceBNe, show newV [.slice none 0 0, .slice none 0 0, .slice none 0 0, .slice none 0 0, .slice none 0 0] X1 = _ from nw, st, bx.ld (k := 2) (v := w2) rfl, bp, lp, e1, e2]
  exact jj r hr
theorem known_c9 {X : Heap} {b4 : Nat} {x1 p0 p1 p2 p3 p4 : Value} (h4 : BG X b4 chap p0 p1 p2 p3 p4) : ∃ X', Keep (all X) X X' ∧ ∀ r, Ev (fun n m => f9_L1 real (AC n) n m x1 (ptr b4 0) (.int .i64 ((9 + 1 : Nat) : Int)) X') r → Ev (fun n m => f9_L1 real (AC n) n m x1 (ptr b4 0) (.int .i64 ((9 : Nat) : Int)) X) r := by
  obtain ⟨w0, w1, w2, w3, w4, X1, X2, c0, c1, c2, c3, c4, Rq, a1, nw, st, gb, hn, hn1, kx, hone, og⟩ := known_start h4
  have bx : Box (fun b => b = X1.n) X2 X1.n [w0, w1, w2, w3, w4] := ⟨rfl, _, _, gb⟩
  have e2 : stV 1 (ptr X1.n 4) (nilS) X2 = some (undef, X2.upd X1.n (some ⟨[w0, w1, w2, w3, nilS], 1, true⟩)) := stV1_box gb (by simp) rfl rfl
  have ku : Keep (fun b => b ≠ X1.n) X2 (X2.upd X1.n (some ⟨[w0, w1, w2, w3, nilS], 1, true⟩)) := upd_past'
  have kk : Keep (all X) X (X2.upd X1.n (some ⟨[w0, w1, w2, w3, nilS], 1, true⟩)) := kx.trans (ku.mono fun b hb => by have h : b < X.n := hb; omega)
  have sm := og.sm
  obtain ⟨X', k', jj⟩ := known_J1 (x1 := x1) (i := 9) (h4.up kk) ⟨⟨hn, 1, true, upd_self⟩, ((G5.keep (g := { chap with prods := [] }) ⟨sm.s0, sm.s1, sm.s2, sm.s3, ⟨[], Sl.nil, .nil⟩⟩ (ku.mono fun b hb he => hb.1 (.inr he))).mono fun b hb => hb.2).rep⟩ chap_fits (by
    refine ⟨⟨by decide, by decide, by decide, by decide, by decide, ?_, ?_⟩, by decide, by decide⟩
    · unfold ptsOk; decide
    · decide) (by omega)
  refine ⟨X', kk.trans (k'.mono (upA kk)), fun r hr => ?_⟩
  refine Ev.step (fun n m => f9_L1.eq_2 _ _ _ _ _ _ _ _) ?_
  simp only [real_b, real_i, real_c, chk_t, bnd_some, bnd_up, iff_t, iff_f, gd_t, gd_f, wd_b, wd_u, pick_t, pick_f, b_lss, b_leq, b_gtr, b_geq, b_eql, b_neq, b_seql, b_sneq, b_add, b_sub, u_not, nilC_ptr, fAddr_ptr, Nat.zero_add, extr0, extr1, extr2, lenStr, decide_true, decide_false, bt_tt, bt_tf, bt_ft, bt_ff, bt_bne, Bool.not_true, Bool.not_false, Int.reduceBEq, Int.reduceBNe, Int.cast_ofNat_Int, show ((9 : Int) < 12) = True by simp, h4.ld]
  refine Ev.callC a1 ?_
  simp only [real_b, real_i, real_c, chk_t, bnd_some, bnd_up, iff_t, iff_f, gd_t, gd_f, wd_b, wd_u, pick_t, pick_f, b_lss, b_leq, b_gtr, b_geq, b_eql, b_neq, b_seql, b_sneq, b_add, b_sub, u_not, nilC_ptr, fAddr_ptr, Nat.zero_add, extr0, extr1, extr2, lenStr, decide_true, decide_false, bt_tt, bt_tf, bt_ft, bt_ff, bt_bne, Bool.not_true, Bool.not_false, Int.reduceBEq, Int.reduceBNe, show newV [.slice none 0 0, .slice none 0 0, .slice none 0 0, .slice none 0 0, .slice none 0 0] X1 = _ from nw, st, e2]
  exact jj r hr
theorem known_c5 {X : Heap} {b4 : Nat} {x1 p0 p1 p2 p3 p4 : Value} (h4 : BG X b4 chap p0 p1 p2 p3 p4) : ∃ X', Keep (all X) X X' ∧ ∀ r, Ev (fun n m => f9_L1 real (AC n) n m x1 (ptr b4 0) (.int .i64 ((5 + 1 : Nat) : Int)) X') r → Ev (fun n m => f9_L1 real (AC n) n m x1 (ptr b4 0) (.int .i64 ((5 : Nat) : Int)) X) r := by
  obtain ⟨w0, w1, w2, w3, w4, X1, X2, c0, c1, c2, c3, c4, Rq, a1, nw, st, gb, hn, hn1, kx, hone, og⟩ := known_start h4
  have bx : Box (fun b => b = X1.n) X2 X1.n [w0, w1, w2, w3, w4] := ⟨rfl, _, _, gb⟩
  have hc := lv4 og.r1
  subst hc
  obtain ⟨b, rfl, hb2, hb3, hb4⟩ : ∃ b, w1 = .slice (some ⟨b, 0, none⟩) 2 2 ∧ ¬ (all X b ∨ b = X1.n) ∧ b < X2.n ∧ X2.get b = some ⟨[.int .i64 0, .int .i64 0, .int .i64 0, .int .i64 0], 2, true⟩ := by
    rcases og.a1 with ⟨_, h, _⟩ | ⟨b, h1, h2, h3, h4, _⟩
    · cases h
    · exact ⟨b, h1, h2, h3, h4⟩
  have s1 : slcS 2 (.slice (some ⟨b, 0, none⟩) 2 2) none (some (.int .i64 1)) none = some (.slice (some ⟨b, 0, none⟩) 1 2) := rfl
  have n1 : Sli (fun x => ¬ (all X x ∨ x = X1.n) ∧ x < X2.n) X2 [(⟨0, 0⟩ : Lv)] (.slice (some ⟨b, 0, none⟩) 1 2) := ⟨[.int .i64 0, .int .i64 0], .inr (.inr ⟨b, 0, none, 2, _, rfl, ⟨hb2, hb3⟩, hb4, (show 0 + 1 * 2 ≤ 4 by omega), (show 1 ≤ 2 by omega), rfl⟩), .cons (c := [.int .i64 0, .int .i64 0]) (rep_lv_mk (x := ⟨0, 0⟩) i0 i0) .nil⟩
  have e2 : stV 1 (ptr X1.n 1) (.slice (some ⟨b, 0, none⟩) 1 2) X2 = some (undef, X2.upd X1.n (some ⟨[w0, .slice (some ⟨b, 0, none⟩) 1 2, w2, w3, w4], 1, true⟩)) := stV1_box gb (by simp) rfl rfl
  have ku : Keep (fun b => b ≠ X1.n) X2 (X2.upd X1.n (some ⟨[w0, .slice (some ⟨b, 0, none⟩) 1 2, w2, w3, w4], 1, true⟩)) := upd_past'
  have kk : Keep (all X) X (X2.upd X1.n (some ⟨[w0, .slice (some ⟨b, 0, none⟩) 1 2, w2, w3, w4], 1, true⟩)) := kx.trans (ku.mono fun b hb => by have h : b < X.n := hb; omega)
  have sm := og.sm
  obtain ⟨X', k', jj⟩ := known_J1 (x1 := x1) (i := 5) (h4.up kk) ⟨⟨hn, 1, true, upd_self⟩, ((G5.keep (g := { chap with levels := [⟨0, 0⟩] }) ⟨sm.s0, n1, sm.s2, sm.s3, sm.s4⟩ (ku.mono fun b hb he => hb.1 (.inr he))).mono fun b hb => hb.2).rep⟩ chap_fits (by
    refine ⟨⟨by decide, by decide, by decide, by decide, by decide, ?_, ?_⟩, by decide, by decide⟩
    · unfold ptsOk; decide
    · decide) (by omega)
  refine ⟨X', kk.trans (k'.mono (upA kk)), fun r hr => ?_⟩
  refine Ev.step (fun n m => f9_L1.eq_2 _ _ _ _ _ _ _ _) ?_
  simp only [real_b, real_i, real_c, chk_t, bnd_some, bnd_up, iff_t, iff_f, gd_t, gd_f, wd_b, wd_u, pick_t, pick_f, b_lss, b_leq, b_gtr, b_geq, b_eql, b_neq, b_seql, b_sneq, b_add, b_sub, u_not, nilC_ptr, fAddr_ptr, Nat.zero_add, extr0, extr1, extr2, lenStr, decide_true, decide_false, bt_tt, bt_tf, bt_ft, bt_ff, bt_bne, Bool.not_true, Bool.not_false, Int.reduceBEq, Int.reduceBNe, Int.cast_ofNat_Int, show ((5 : Int) < 12) = True by simp, h4.ld]
  refine Ev.callC a1 ?_
  simp only [real_b, real_i, real_c, chk_t, bnd_some, bnd_up, iff_t, iff_f, gd_t, gd_f, wd_b, wd_u, pick_t, pick_f, b_lss, b_leq, b_gtr, b_geq, b_eql, b_neq, b_seql, b_sneq, b_add, b_sub, u_not, nilC_ptr, fAddr_ptr, Nat.zero_add, extr0, extr1, extr2, lenStr, decide_true, decide_false, bt_tt, bt_tf, bt_ft, bt_ff, bt_bne, Bool.not_true, Bool.not_false, Int.reduceBEq, Int.reduceBNe, show newV [.slice none 0 0, .slice none 0 0, .slice none 0 0, .slice none 0 0, .slice none 0 0] X1 = _ from nw, st, bx.ld (k := 1) (v := .slice (some ⟨b, 0, none⟩) 2 2) rfl, s1, e2]
  exact jj r hr
theorem known_c11 {X : Heap} {b4 : Nat} {p0 p1 p2 p3 p4 : Value} {ll : List UInt8} (hll : ll.length = 70000) (h4 : BG X b4 chap p0 p1 p2 p3 p4) : ∃ X', Keep (all X) X X' ∧ ∀ r, Ev (fun n m => f9_L1 real (AC n) n m (.string (bs ll)) (ptr b4 0) (.int .i64 ((11 + 1 : Nat) : Int)) X') r → Ev (fun n m => f9_L1 real (AC n) n m (.string (bs ll)) (ptr b4 0) (.int .i64 ((11 : Nat) : Int)) X) r := by
  obtain ⟨w0, w1, w2, w3, w4, X1, X2, c0, c1, c2, c3, c4, Rq, a1, nw, st, gb, hn, hn1, kx, hone, og⟩ := known_start h4
  have bx : Box (fun b => b = X1.n) X2 X1.n [w0, w1, w2, w3, w4] := ⟨rfl, _, _, gb⟩
  have hR : Rb (fun b => all X b ∨ b = X1.n) X2 := fun b hb => by
    rcases hb with h | h
    · exact Nat.lt_of_lt_of_le h kx.1
    · omega
  obtain ⟨w, X3, e1, k, hw, g5⟩ := og.add2 hR (t := 0) (s := (bs ll)) i0 (by decide)
  have gb3 : X3.get X1.n = some ⟨[w0, w1, w2, w3, w4], 1, true⟩ := by rw [k.2 _ (.inr rfl)]; exact gb
  have e2 : stV 1 (ptr X1.n 2) w X3 = some (undef, X3.upd X1.n (some ⟨[w0, w1, w, w3, w4], 1, true⟩)) := stV1_box gb3 (by simp) hw.2 hw.1
  have ku : Keep (fun b => b ≠ X1.n) X3 (X3.upd X1.n (some ⟨[w0, w1, w, w3, w4], 1, true⟩)) := upd_past'
  have kk : Keep (all X) X (X3.upd X1.n (some ⟨[w0, w1, w, w3, w4], 1, true⟩)) := kx.trans ((k.mono fun b hb => .inl hb).trans (ku.mono fun b hb => by have h : b < X.n := hb; omega))
  obtain ⟨X', k', jj⟩ := known_J1 (x1 := .string (bs ll)) (i := 11) (h4.up kk) ⟨⟨Nat.lt_of_lt_of_le hn k.1, 1, true, upd_self⟩, ((g5.keep (ku.mono fun b hb he => hb.1 (.inr he))).mono fun b hb => hb.2).rep⟩ chap_fits (by
    refine ⟨⟨chap_fits.s.t, chap_fits.s.l, chap_fits.s.n, by show 1 < 1000000000000; decide, chap_fits.s.d, ?_, chap_fits.s.r⟩, ?_, ?_⟩
    · intro x hx
      obtain rfl := List.mem_singleton.1 hx
      show (bs ll).size ≤ maxLen
      rw [bs_size, hll]; decide
    · have h := chap_fits.v
      rw [gvol_eq] at h ⊢
      exact h
    · simp [ptvol, chap, bs_size, hll]) (by omega)
  have bp : bld [.int .i64 0, .string ⟨#[]⟩] [(1, 1, .string (bs ll))] X2 = some (.agg [.int .i64 (0), .string (bs ll)].toArray, X2) := rfl
  have lp : bldS 2 1 [.int .i64 0, .string ⟨#[]⟩] [(0, 2, .agg [.int .i64 (0), .string (bs ll)].toArray)] X2 = some (.slice (some ⟨X2.n, 0, none⟩) 1 1, X2.push ⟨[.int .i64 (0), .string (bs ll)], 2, true⟩) := rfl
  refine ⟨X', kk.trans (k'.mono (upA kk)), fun r hr => ?_⟩
  refine Ev.step (fun n m => f9_L1.eq_2 _ _ _ _ _ _ _ _) ?_
  simp only [real_b, real_i, real_c, chk_t, bnd_some, bnd_up, iff_t, iff_f, gd_t, gd_f, wd_b, wd_u, pick_t, pick_f, b_lss, b_leq, b_gtr, b_geq, b_eql, b_neq, b_seql, b_sneq, b_add, b_sub, u_not, nilC_ptr, fAddr_ptr, Nat.zero_add, extr0, extr1, extr2, lenStr, decide_true, decide_false, bt_tt, bt_tf, bt_ft, bt_ff, bt_bne, Bool.not_true, Bool.not_false, Int.reduceBEq, Int.reduceBNe, Int.cast_ofNat_Int, show ((11 : Int) < 12) = True by simp, h4.ld]
  refine Ev.callC a1 ?_
  simp only [real_b, real_i, real_c, chk_t, bnd_some, bnd_up, iff_t, iff_f, gd_t, gd_f, wd_b, wd_u, pick_t, pick_f, b_lss, b_leq, b_gtr, b_geq, b_eql, b_neq, b_seql, b_sneq, b_add, b_sub, u_not, nilC_ptr, fAddr_ptr, Nat.zero_add, extr0, extr1, extr2, lenStr, decide_true, decide_false, bt_tt, bt_tf, bt_ft, bt_ff, bt_bne, Bool.not_true, Bool.not_false, Int.reduceBEq, Int.reduceBNe, show newV [.slice none 0 0, .slice none 0 0, .slice none 0 0, .slice none 0 0, .slice none 0 0] X1 = _ from nw, st, bx.ld (k := 2) (v := w2) rfl, bp, lp, e1, e2]
  exact jj r hr
end Go.Eng

/- KeysKnown holds. -/
set_option linter.unusedVariables false
set_option linter.unusedSimpArgs false
namespace Go.Eng
open Go Go.Proofs

theorem zero_fits : Fits ⟨[], [], [], [], []⟩ := by
  refine ⟨⟨by decide, by decide, by decide, by decide, by decide, ?_, ?_⟩, by decide, by decide⟩
  · unfold ptsOk; decide
  · decide
theorem known_zero (H : Heap) : ∃ H', Cl 6 [.agg #[nilS, nilS, nilS, nilS, nilS]] H (.bool true) H' := by
  have g5 : G5 (all H) H ⟨[], [], [], [], []⟩ nilS nilS nilS nilS nilS := ⟨⟨[], Sl.nil, .nil⟩, ⟨[], Sl.nil, .nil⟩, ⟨[], Sl.nil, .nil⟩, ⟨[], Sl.nil, .nil⟩, ⟨[], Sl.nil, .nil⟩⟩
  obtain ⟨H', h, _⟩ := grammars_law g5.rep zero_fits
  exact ⟨H', h⟩
theorem known_L1 {X : Heap} {b4 : Nat} {ll : List UInt8} {p0 p1 p2 p3 p4 : Value} (hll : ll.length = 70000) (h : BG X b4 chap p0 p1 p2 p3 p4) : ∃ H', Ev (fun n m => f9_L1 real (AC n) n m (.string (bs ll)) (ptr b4 0) (.int .i64 ((0 : Nat) : Int)) X) (.bool true, H') := by
  obtain ⟨Y0, k0, j0⟩ := known_c0 (x1 := .string (bs ll)) h
  have h := h.up k0
  obtain ⟨Y1, k1, j1⟩ := known_c1 (x1 := .string (bs ll)) h
  have h := h.up k1
  obtain ⟨Y2, k2, j2⟩ := known_c2 (x1 := .string (bs ll)) h
  have h := h.up k2
  obtain ⟨Y3, k3, j3⟩ := known_c3 (x1 := .string (bs ll)) h
  have h := h.up k3
  obtain ⟨Y4, k4, j4⟩ := known_c4 (x1 := .string (bs ll)) h
  have h := h.up k4
  obtain ⟨Y5, k5, j5⟩ := known_c5 (x1 := .string (bs ll)) h
  have h := h.up k5
  obtain ⟨Y6, k6, j6⟩ := known_c6 (x1 := .string (bs ll)) h
  have h := h.up k6
  obtain ⟨Y7, k7, j7⟩ := known_c7 (x1 := .string (bs ll)) h
  have h := h.up k7
  obtain ⟨Y8, k8, j8⟩ := known_c8 (x1 := .string (bs ll)) h
  have h := h.up k8
  obtain ⟨Y9, k9, j9⟩ := known_c9 (x1 := .string (bs ll)) h
  have h := h.up k9
  obtain ⟨Ya, ka, ja⟩ := known_c10 (x1 := .string (bs ll)) h
  have h := h.up ka
  obtain ⟨Yb, kb, jb⟩ := known_c11 hll h
  obtain ⟨H', e⟩ := known_L2 known_zero 256 0 Yb (by omega)
  refine ⟨H', j0 _ (j1 _ (j2 _ (j3 _ (j4 _ (j5 _ (j6 _ (j7 _ (j8 _ (j9 _ (ja _ (jb _ ?_)))))))))))⟩
  refine Ev.step (fun n m => f9_L1.eq_2 _ _ _ _ _ _ _ _) ?_
  simp only [real_b, real_i, real_c, chk_t, bnd_some, bnd_up, iff_t, iff_f, gd_t, gd_f, wd_b, wd_u, pick_t, pick_f, b_lss, b_leq, b_gtr, b_geq, b_eql, b_neq, b_seql, b_sneq, b_add, b_sub, u_not, nilC_ptr, fAddr_ptr, Nat.zero_add, extr0, extr1, extr2, lenStr, decide_true, decide_false, bt_tt, bt_tf, bt_ft, bt_ff, bt_bne, Bool.not_true, Bool.not_false, Int.reduceBEq, Int.reduceBNe, show (((11 + 1 : Nat) : Int) < 12) = False by simp]
  exact e.loop
theorem known_law (H : Heap) : ∃ H', Cl 9 [] H (.bool true) H' := by
  obtain ⟨ll, hl⟩ : ∃ ll, Lib.repeatL [120] 70000 = ll := ⟨_, rfl⟩
  have hll : ll.length = 70000 := by rw [← hl, Lib.repeatL_length]; rfl
  have r1 := rep_ok (s := bs [120]) (c := 70000) (by omega) (by rw [bs_size]; decide) H
  rw [bs_list, hl] at r1
  have h2 : Sl (all (H.push ⟨I ends9, 1, true⟩)) (H.push ⟨I ends9, 1, true⟩) 1 (.slice (some ⟨H.n, 0, none⟩) ends9.length ends9.length) 9 (I ends9) := .inr (.inr ⟨H.n, 0, none, 9, _, rfl, by simp [all, push_n], push_self, (show 0 + 9 * 1 ≤ 9 by omega), (show 9 ≤ 9 by omega), rfl⟩)
  obtain ⟨H', h⟩ := known_L0 hll h2 (fun G hG => by
    obtain ⟨cs, G1, c1, c2, c3⟩ := chap_ok G
    obtain ⟨p0, p1, p2, p3, p4, rfl⟩ : ∃ p0 p1 p2 p3 p4, cs = [p0, p1, p2, p3, p4] := by
      have hl := gr_len c3
      match cs, hl with
      | [p0, p1, p2, p3, p4], _ => exact ⟨p0, p1, p2, p3, p4, rfl⟩
    have hone := Rp.one c3
    have st : stV 5 (ptr G1.n 0) (.agg [p0, p1, p2, p3, p4].toArray) (G1.push ⟨[nilS, nilS, nilS, nilS, nilS], 1, true⟩) = some (undef, G1.push ⟨[p0, p1, p2, p3, p4], 1, true⟩) := (push_st (H := G1) (n := 5) (cs := [nilS, nilS, nilS, nilS, nilS]) (ds := [p0, p1, p2, p3, p4]) rfl rfl hone).trans (by rw [push_updE])
    have kp : Keep (all G1) G1 (G1.push ⟨[p0, p1, p2, p3, p4], 1, true⟩) := push_keep
    obtain ⟨H', h⟩ := known_L1 (b4 := G1.n) hll (X := G1.push ⟨[p0, p1, p2, p3, p4], 1, true⟩) ⟨push_boxA, Rp.mono (Rp.keep c3 kp) (upA kp)⟩
    refine ⟨H', ?_⟩
    refine Ev.callC c1 ?_
    simp only [bnd_some, show newV [.slice none 0 0, .slice none 0 0, .slice none 0 0, .slice none 0 0, .slice none 0 0] G1 = some (ptr G1.n 0, G1.push ⟨[nilS, nilS, nilS, nilS, nilS], 1, true⟩) from newV_box rfl, st]
    exact h.loop) 9 0 _ (by omega) (Keep.refl _ _)
  refine ⟨H', ?_⟩
  refine Ev.enter (fun n => f9_eq rfl n _) ?_
  simp only [f9, real_b, real_i, real_c, chk_t, bnd_some, bnd_up, iff_t, iff_f, gd_t, gd_f, wd_b, wd_u, pick_t, pick_f, b_lss, b_leq, b_gtr, b_geq, b_eql, b_neq, b_seql, b_sneq, b_add, b_sub, u_not, nilC_ptr, fAddr_ptr, Nat.zero_add, extr0, extr1, extr2, lenStr, decide_true, decide_false, bt_tt, bt_tf, bt_ft, bt_ff, bt_bne, Bool.not_true, Bool.not_false, Int.reduceBEq, Int.reduceBNe]
  refine Ev.callC r1 ?_
  simp only [real_b, real_i, real_c, chk_t, bnd_some, bnd_up, iff_t, iff_f, gd_t, gd_f, wd_b, wd_u, pick_t, pick_f, b_lss, b_leq, b_gtr, b_geq, b_eql, b_neq, b_seql, b_sneq, b_add, b_sub, u_not, nilC_ptr, fAddr_ptr, Nat.zero_add, extr0, extr1, extr2, lenStr, decide_true, decide_false, bt_tt, bt_tf, bt_ft, bt_ff, bt_bne, Bool.not_true, Bool.not_false, Int.reduceBEq, Int.reduceBNe, lit9]
  exact h.loop
end Go.Eng
