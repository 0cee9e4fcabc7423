/- A key's beginning, texts, its end. -/
import Derived.Test.YtjnpiaigiljpjaaKE
set_option linter.unusedVariables false
set_option linter.unusedSimpArgs false
namespace Go.Eng
open Go Go.Proofs

theorem Ev.callC {f : FuncId} {args : List Value} {H : Heap} {v : Value} {H' : Heap} {k : Nat → Nat → Value → Heap → Option (Value × Heap)} {r : Value × Heap} (h : Cl f args H v H') (h' : Ev (fun n m => k n m v H') r) : Ev (fun n m => Eng.bnd (AC n f args H) (k n m)) r :=
  Ev.bnd (k := k) (A := fun n _ => AC n f args H) h h'

theorem Ev3.callC {f : FuncId} {args : List Value} {H : Heap} {v : Value} {H' : Heap} {k : Nat → Nat → Nat → Value → Heap → Option (Value × Heap)} {r : Value × Heap} (h : Cl f args H v H') (h' : Ev3 (fun n m j => k n m j v H') r) : Ev3 (fun n m j => Eng.bnd (AC n f args H) (k n m j)) r :=
  Ev3.bnd (k := k) (A := fun n => AC n f args H) h h'

theorem numbers_ok {R : Nat → Prop} {H : Heap} {p v : Value} {l : List Nat} {e : Int} {xs : List Int} (hlen : xs.length < 1000000000000) (hS : St R H p l (.int .i64 e)) (hR : Rb R H) (hV : Sl R H 1 v xs.length (I xs)) (hb : l.length + 9 * xs.length ≤ mostBytes) :
    ∃ H', Cl 36 [p, v] H p H' ∧ St R H' p (l ++ nbs xs) (.int .i64 (eN e xs)) ∧ Keep R H H' := by
  obtain ⟨H', h1, h2, h3⟩ := numbers_loop R xs v hlen xs.length 0 (by omega) H p l e hS hR hV hb
  refine ⟨H', ?_, by simpa using h2, h3⟩
  refine Ev.enter (fun n => f36_eq rfl n _ _ _) ?_
  simp only [f36, real_b, hV.lenS, bnd_up]
  exact h1.loop

theorem bldI {H : Heap} : ∀ (xs : List Int), xs.length = 1 ∨ xs.length = 2 → True := fun _ _ => trivial
theorem bld1' {H : Heap} {x : Value} (h : Value.oneCell' x = true) (hc : x.cells = #[x]) {z : Value} : bldS 1 1 [z] [(0, 1, x)] H = some (.slice (some ⟨H.n, 0, none⟩) 1 1, H.push ⟨[x], 1, true⟩) := bld1 h hc
theorem bld2 {H : Heap} {x y : Value} (h : Value.oneCell' x = true) (hc : x.cells = #[x]) (h' : Value.oneCell' y = true) (hc' : y.cells = #[y]) {z : Value} :
    bldS 1 2 [z] [(0, 1, x), (1, 1, y)] H = some (.slice (some ⟨H.n, 0, none⟩) 2 2, H.push ⟨[x, y], 1, true⟩) := by
  simp [bldS, rep, fillC, hc, hc', splice, newS, h, h']

/-- numbers, of a list that was just made. -/
theorem numbers_lit {R : Nat → Prop} {H : Heap} {p : Value} {l : List Nat} {e : Int} (xs : List Int) (hlen : xs.length < 1000000000000) (hS : St R H p l (.int .i64 e)) (hR : Rb R H) (hb : l.length + 9 * xs.length ≤ mostBytes) :
    ∃ H', Cl 36 [p, .slice (some ⟨H.n, 0, none⟩) xs.length xs.length] (H.push ⟨I xs, 1, true⟩) p H' ∧ St R H' p (l ++ nbs xs) (.int .i64 (eN e xs)) ∧ Keep R H H' := by
  have hk : Keep (all H) H (H.push ⟨I xs, 1, true⟩) := Keep.push (Rb.all H)
  have hV : Sl (plus R H (H.push ⟨I xs, 1, true⟩)) (H.push ⟨I xs, 1, true⟩) 1 (.slice (some ⟨H.n, 0, none⟩) xs.length xs.length) xs.length (I xs) := by
    refine .inr (.inr ⟨H.n, 0, none, xs.length, _, rfl, .inr ⟨Nat.le_refl _, by simp [push_n]⟩, push_self, by simp [I], Nat.le_refl _, ?_⟩)
    simp only [cut, List.drop_zero, Nat.mul_one]
    exact List.take_of_length_le (by simp [I])
  obtain ⟨H', h1, h2, h3⟩ := numbers_ok hlen (hS.plus hk) (hR.plus hk.1) hV hb
  exact ⟨H', h1, h2.more fun b hb _ => plus_le b hb, (hk.of_all hR).trans (h3.mono plus_le)⟩

/-- A string's bytes. -/
def sb (s : ByteArray) : List Nat := s.data.toList.map UInt8.toNat
set_option maxRecDepth 10000 in
theorem addend_str {s : ByteArray} {H : Heap} : addend 1 (.string s) H = some ((sb s).length, B (sb s)) := by
  have h1 : (sb s).length = s.size := by
    unfold sb
    rw [List.length_map]
    rfl
  have h2 : B (sb s) = s.data.toList.map fun c => Value.int .u8 c.toNat := by
    unfold sb B
    rw [List.map_map]
    rfl
  rw [h1, h2]
  rfl
theorem sb_len {s : ByteArray} : (sb s).length = s.size := by
  unfold sb
  rw [List.length_map]
  rfl
def tb (s : ByteArray) : List Nat := nb s.size ++ sb s

theorem text_ok {R : Nat → Prop} {H : Heap} {p : Value} {l : List Nat} {e : Int} {s : ByteArray} (hS : St R H p l (.int .i64 e)) (hR : Rb R H) (hb : l.length + 9 + s.size ≤ 1000000000000) :
    ∃ H', Cl 31 [p, .string s] H p H' ∧ St R H' p (l ++ tb s) (.int .i64 e) ∧ Keep R H H' := by
  have hmb : mostBytes = 140737488355328 := rfl
  obtain ⟨H1, h1, h2, h3⟩ := numbers_lit [(s.size : Int)] (by simp) hS hR (by simp; omega)
  have hok : okN (s.size : Int) = true := by simp [okN]; omega
  have he : eN e [(s.size : Int)] = e := by simp [eN, hok]
  rw [he] at h2
  have hn := nb_len (s.size : Int)
  obtain ⟨kb, w, rfl, o1, o2, o3, o4, o5, o6⟩ := h2.op (hR.mono h3.1)
  obtain ⟨v', H2, H3, a1, a2, a3, a4⟩ := o6 (.string s) (sb s) addend_str (by simp only [List.length_append, nbs, List.flatMap_cons, List.flatMap_nil, List.append_nil, sb_len]; omega)
  refine ⟨H3, ?_, by simpa [tb, nbs] using a3, h3.trans a4⟩
  refine Ev.enter (fun n => f31_eq rfl n _ _ _) ?_
  simp only [f31, real_b, lenStr, bnd_up]
  rw [bld1 rfl rfl]
  simp only [bnd_some]
  refine Ev.callC h1 ?_
  simp only [nilC_ptr, bnd_some, fAddr_ptr, bnd_up, Nat.zero_add, o1, a1, a2]
  exact Ev.pure _

theorem begin_ok (H : Heap) (k : Int) : ∃ p H', Cl 30 [.int .i64 k] H p H' ∧ St (all H) H' p (nb k) (.int .i64 (eN 0 [k])) ∧ Keep (all H) H H' := by
  have hmb : mostBytes = 140737488355328 := rfl
  have hS : St (all H) (H.push ⟨[.slice none 0 0, .int .i64 0], 1, true⟩) (ptr H.n 0) [] (.int .i64 0) := ⟨H.n, .slice none 0 0, rfl, Nat.lt_irrefl _, by simp [push_n], push_self, Acc.nil⟩
  have hk : Keep (all H) H (H.push ⟨[.slice none 0 0, .int .i64 0], 1, true⟩) := Keep.push (Rb.all H)
  obtain ⟨H1, h1, h2, h3⟩ := numbers_lit [k] (by simp) hS ((Rb.all H).mono hk.1) (by simp; omega)
  refine ⟨_, H1, ?_, by simpa [nbs] using h2, hk.trans h3⟩
  refine Ev.enter (fun n => f30_eq rfl n _ _) ?_
  have hb : bld [.slice none 0 0, .int .i64 0] [] H = some (.agg #[.slice none 0 0, .int .i64 0], H) := rfl
  have hn : newV (Value.cells (.agg #[.slice none 0 0, .int .i64 0])).toList H = some (ptr H.n 0, H.push ⟨[.slice none 0 0, .int .i64 0], 1, true⟩) := rfl
  simp only [f30, real_b, hb, bnd_some, hn]
  rw [bld1 rfl rfl]
  simp only [bnd_some]
  exact Ev.callC h1 (Ev.pure _)

/-- What a key comes to at its end. -/
def endL (e : Int) (l : List Nat) : List Nat := if e = 0 then (if 65536 < l.length then [] else l) else []
def endE (e : Int) (l : List Nat) : Int := if e = 0 then (if 65536 < l.length then 5 else 0) else e
theorem ends_ok {R : Nat → Prop} {H : Heap} {p : Value} {l : List Nat} {e : Int} (hS : St R H p l (.int .i64 e)) (hR : Rb R H) (hl : l.length < 9223372036854775808) :
    ∃ v, Cl 32 [p] H (.tuple #[v, .int .i64 (endE e l)]) H ∧ Acc R H 1 v (endL e l).length (B (endL e l)) := by
  obtain ⟨kb, w, rfl, o1, o2, o3, o4, o5, o6⟩ := hS.op hR
  unfold endL endE
  by_cases he : e = 0
  · subst he
    by_cases hlen : 65536 < l.length
    · simp only [if_true, if_pos hlen]
      refine ⟨.slice none 0 0, ?_, Acc.nil⟩
      refine Ev.enter (fun n => f32_eq rfl n _ _) ?_
      have hd : (l.length : Int) > 65536 := by omega
      simp only [f32, real_b, real_i, nilC_ptr, bnd_some, fAddr_ptr, bnd_up, Nat.zero_add, o1, o2, o3, b_neq, bne_self_eq_false, iff_f, b_gtr, hd, decide_true, iff_t]
      exact Ev.pure _
    · simp only [if_true, if_neg hlen]
      refine ⟨w, ?_, o4⟩
      refine Ev.enter (fun n => f32_eq rfl n _ _) ?_
      have hd : ¬ (l.length : Int) > 65536 := by omega
      simp only [f32, real_b, real_i, nilC_ptr, bnd_some, fAddr_ptr, bnd_up, Nat.zero_add, o1, o2, o3, b_neq, bne_self_eq_false, iff_f, b_gtr, hd, decide_false]
      exact Ev.pure _
  · simp only [if_neg he]
    refine ⟨.slice none 0 0, ?_, Acc.nil⟩
    refine Ev.enter (fun n => f32_eq rfl n _ _) ?_
    have hd : (e != 0) = true := by simpa using he
    simp only [f32, real_b, real_i, real_c, chk_t, nilC_ptr, bnd_some, fAddr_ptr, bnd_up, Nat.zero_add, o1, o2, o3, b_neq, hd, iff_t]
    exact Ev.pure _
end Go.Eng
