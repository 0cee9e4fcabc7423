import Derived.Test.YtimhmmeoliagjaaDoorYO
set_option linter.unusedVariables false
set_option linter.unusedSimpArgs false
namespace Go.Eng

inductive Mt (T : List Nat) : Rx → Nat → Nat → Prop where
  | nil {i : Nat} : i ≤ T.length → Mt T .nil i i
  | set {s i c : Nat} : T[i]? = some c → s.testBit c = true → Mt T (.set s) i (i + 1)
  | seq {x y : Rx} {i k j : Nat} : Mt T x i k → Mt T y k j → Mt T (.seq x y) i j
  | altL {x y : Rx} {i j : Nat} : Mt T x i j → Mt T (.alt x y) i j
  | altR {x y : Rx} {i j : Nat} : Mt T y i j → Mt T (.alt x y) i j
  | star0 {x : Rx} {i : Nat} : i ≤ T.length → Mt T (.star x) i i
  | starS {x : Rx} {i k j : Nat} : Mt T x i k → Mt T (.star x) k j → Mt T (.star x) i j
  | plus {x : Rx} {i k j : Nat} : Mt T x i k → Mt T (.star x) k j → Mt T (.plus x) i j
theorem Mt.le {T : List Nat} {t : Rx} {i j : Nat} (h : Mt T t i j) : i ≤ j ∧ j ≤ T.length := by
  induction h with
  | nil h => exact ⟨Nat.le_refl _, h⟩
  | set h _ => exact ⟨Nat.le_succ _, (List.getElem?_eq_some_iff.1 h).1⟩
  | seq _ _ h1 h2 => omega
  | altL _ h => exact h
  | altR _ h => exact h
  | star0 h => exact ⟨Nat.le_refl _, h⟩
  | starS _ _ h1 h2 => omega
  | plus _ _ h1 h2 => omega
theorem Mt.snoc {T : List Nat} {x t : Rx} {i k j : Nat} (h : Mt T t i k) : t = .star x → Mt T x k j → Mt T (.star x) i j := by
  induction h with
  | star0 h => intro he hx; injection he with he; subst he; exact .starS hx (.star0 hx.le.2)
  | starS h1 h2 ih1 ih2 => intro he hx; injection he with he; subst he; exact .starS h1 (ih2 rfl hx)
  | _ => intro he; cases he
theorem Mt.plus_snoc {T : List Nat} {x : Rx} {i k j : Nat} (h : Mt T (.star x) i k) (hx : Mt T x k j) : Mt T (.plus x) i j := by
  have : ∀ t i k, Mt T t i k → t = .star x → ∀ j, Mt T x k j → Mt T (.plus x) i j := by
    intro t i k h
    induction h with
    | star0 h => intro he j hx; injection he with he; subst he; exact .plus hx (.star0 hx.le.2)
    | starS h1 h2 ih1 ih2 => intro he j hx; injection he with he; subst he; exact .plus h1 (h2.snoc rfl hx)
    | _ => intro he; cases he
  exact this _ _ _ h rfl _ hx

def UpOk (u : List Nat) : Nat → Rx → Prop
  | _, .nil => True
  | _, .set _ => True
  | o, .seq x y => UpOk u o x ∧ UpOk u (o + x.size) y ∧ u.getD (o + x.size - 1) 0 = o + x.size + y.size ∧ u.getD (o + x.size + y.size - 1) 0 = o + x.size + y.size
  | o, .alt x y => UpOk u o x ∧ UpOk u (o + x.size) y ∧ u.getD (o + x.size - 1) 0 = o + x.size + y.size ∧ u.getD (o + x.size + y.size - 1) 0 = o + x.size + y.size
  | o, .star x => UpOk u o x ∧ u.getD (o + x.size - 1) 0 = o + x.size
  | o, .plus x => UpOk u o x ∧ u.getD (o + x.size - 1) 0 = o + x.size
theorem UpOk.same {u w : List Nat} : ∀ {t : Rx} {o : Nat}, UpOk u o t → (∀ k, o ≤ k → k + 1 < o + t.size → w.getD k 0 = u.getD k 0) → UpOk w o t
  | .nil, o, _, _ => trivial
  | .set _, o, _, _ => trivial
  | .seq x y, o, h, hk => by
    have px := x.size_pos; have py := y.size_pos
    simp only [Rx.size] at hk
    exact ⟨h.1.same fun k h1 h2 => hk k h1 (by omega), h.2.1.same fun k h1 h2 => hk k (by omega) (by omega), (hk _ (by omega) (by omega)).trans h.2.2.1, (hk _ (by omega) (by omega)).trans h.2.2.2⟩
  | .alt x y, o, h, hk => by
    have px := x.size_pos; have py := y.size_pos
    simp only [Rx.size] at hk
    exact ⟨h.1.same fun k h1 h2 => hk k h1 (by omega), h.2.1.same fun k h1 h2 => hk k (by omega) (by omega), (hk _ (by omega) (by omega)).trans h.2.2.1, (hk _ (by omega) (by omega)).trans h.2.2.2⟩
  | .star x, o, h, hk => by
    have px := x.size_pos
    simp only [Rx.size] at hk
    exact ⟨h.1.same fun k h1 h2 => hk k h1 (by omega), (hk _ (by omega) (by omega)).trans h.2⟩
  | .plus x, o, h, hk => by
    have px := x.size_pos
    simp only [Rx.size] at hk
    exact ⟨h.1.same fun k h1 h2 => hk k h1 (by omega), (hk _ (by omega) (by omega)).trans h.2⟩
theorem getD_set {u : List Nat} {a v k : Nat} (ha : a < u.length) : (u.set a v).getD k 0 = if k = a then v else u.getD k 0 := by
  simp only [List.getD_eq_getElem?_getD, List.getElem?_set]
  split
  · rename_i h; subst h; simp [ha]
  · rename_i h; rw [if_neg (fun he => h he.symm)]
theorem upS_at {l : List Nd} {u : List Nat} {i : Nat} {n : Nd} (h : l[i]? = some n) : upS l u i = if n.kind = 3 ∨ n.kind = 4 then (u.set n.b.toNat i).set n.a.toNat i else if n.kind = 5 ∨ n.kind = 6 then u.set n.a.toNat i else u := by
  unfold upS; rw [h]
theorem up_tree {l : List Nd} : ∀ (t : Rx) (o : Nat) (u : List Nat), At l o t → o + t.size ≤ u.length →
    UpOk ((List.range' o t.size).foldl (upS l) u) o t ∧ ∀ k, ¬ (o ≤ k ∧ k + 1 < o + t.size) → ((List.range' o t.size).foldl (upS l) u).getD k 0 = u.getD k 0
  | .nil, o, u, h, hl => ⟨trivial, fun k hk => by
    have := upS_at (u := u) (h.top (t := .nil))
    simp only [Rx.size, Rx.top, Nat.add_sub_cancel] at this
    show (upS l u o).getD k 0 = _
    rw [this]; rfl⟩
  | .set s, o, u, h, hl => ⟨trivial, fun k hk => by
    have := upS_at (u := u) (h.top (t := .set s))
    simp only [Rx.size, Rx.top, Nat.add_sub_cancel] at this
    show (upS l u o).getD k 0 = _
    rw [this]; rfl⟩
  | .seq x y, o, u, h, hl => by
    have px := x.size_pos; have py := y.size_pos
    simp only [Rx.size] at hl
    obtain ⟨a1, a2⟩ := up_tree x o u h.seq.1 (by omega)
    obtain ⟨u1, hu1⟩ : ∃ u1, (List.range' o x.size).foldl (upS l) u = u1 := ⟨_, rfl⟩
    rw [hu1] at a1 a2
    have l1 : u1.length = u.length := by rw [← hu1, upF_len]
    obtain ⟨b1, b2⟩ := up_tree y (o + x.size) u1 h.seq.2 (by omega)
    obtain ⟨u2, hu2⟩ : ∃ u2, (List.range' (o + x.size) y.size).foldl (upS l) u1 = u2 := ⟨_, rfl⟩
    rw [hu2] at b1 b2
    have l2 : u2.length = u.length := by rw [← hu2, upF_len, l1]
    have er : List.range' o (Rx.seq x y).size = List.range' o x.size ++ (List.range' (o + x.size) y.size ++ [o + x.size + y.size]) := by
      simp only [Rx.size]
      rw [show x.size + y.size + 1 = x.size + (y.size + 1) by omega, ← List.range'_append_1, ← List.range'_append_1]
      rfl
    have ht := h.top
    rw [show o + (Rx.seq x y).size - 1 = o + x.size + y.size by simp only [Rx.size]; omega] at ht
    have e3 := upS_at (u := u2) ht
    simp only [Rx.top, true_or, if_true, Int.toNat_natCast] at e3
    rw [er, List.foldl_append, hu1, List.foldl_append, hu2, List.foldl_cons, List.foldl_nil, e3]
    have hg : ∀ k, ((u2.set (o + x.size + y.size - 1) (o + x.size + y.size)).set (o + x.size - 1) (o + x.size + y.size)).getD k 0 = if k = o + x.size - 1 then o + x.size + y.size else if k = o + x.size + y.size - 1 then o + x.size + y.size else u2.getD k 0 := fun k => by
      rw [getD_set (by rw [List.length_set]; omega), getD_set (by omega)]
    refine ⟨⟨a1.same fun k h1 h2 => ?_, b1.same fun k h1 h2 => ?_, ?_, ?_⟩, fun k hk => ?_⟩
    · rw [hg, if_neg (by omega), if_neg (by omega), b2 k (by omega)]
    · rw [hg, if_neg (by omega), if_neg (by omega)]
    · rw [hg, if_pos rfl]
    · rw [hg, if_neg (by omega), if_pos rfl]
    · simp only [Rx.size] at hk
      rw [hg, if_neg (by omega), if_neg (by omega), b2 k (by omega), a2 k (by omega)]
  | .alt x y, o, u, h, hl => by
    have px := x.size_pos; have py := y.size_pos
    simp only [Rx.size] at hl
    obtain ⟨a1, a2⟩ := up_tree x o u h.alt.1 (by omega)
    obtain ⟨u1, hu1⟩ : ∃ u1, (List.range' o x.size).foldl (upS l) u = u1 := ⟨_, rfl⟩
    rw [hu1] at a1 a2
    have l1 : u1.length = u.length := by rw [← hu1, upF_len]
    obtain ⟨b1, b2⟩ := up_tree y (o + x.size) u1 h.alt.2 (by omega)
    obtain ⟨u2, hu2⟩ : ∃ u2, (List.range' (o + x.size) y.size).foldl (upS l) u1 = u2 := ⟨_, rfl⟩
    rw [hu2] at b1 b2
    have l2 : u2.length = u.length := by rw [← hu2, upF_len, l1]
    have er : List.range' o (Rx.alt x y).size = List.range' o x.size ++ (List.range' (o + x.size) y.size ++ [o + x.size + y.size]) := by
      simp only [Rx.size]
      rw [show x.size + y.size + 1 = x.size + (y.size + 1) by omega, ← List.range'_append_1, ← List.range'_append_1]
      rfl
    have ht := h.top
    rw [show o + (Rx.alt x y).size - 1 = o + x.size + y.size by simp only [Rx.size]; omega] at ht
    have e3 := upS_at (u := u2) ht
    simp only [Rx.top, or_true, if_true, Int.toNat_natCast] at e3
    rw [er, List.foldl_append, hu1, List.foldl_append, hu2, List.foldl_cons, List.foldl_nil, e3]
    have hg : ∀ k, ((u2.set (o + x.size + y.size - 1) (o + x.size + y.size)).set (o + x.size - 1) (o + x.size + y.size)).getD k 0 = if k = o + x.size - 1 then o + x.size + y.size else if k = o + x.size + y.size - 1 then o + x.size + y.size else u2.getD k 0 := fun k => by
      rw [getD_set (by rw [List.length_set]; omega), getD_set (by omega)]
    refine ⟨⟨a1.same fun k h1 h2 => ?_, b1.same fun k h1 h2 => ?_, ?_, ?_⟩, fun k hk => ?_⟩
    · rw [hg, if_neg (by omega), if_neg (by omega), b2 k (by omega)]
    · rw [hg, if_neg (by omega), if_neg (by omega)]
    · rw [hg, if_pos rfl]
    · rw [hg, if_neg (by omega), if_pos rfl]
    · simp only [Rx.size] at hk
      rw [hg, if_neg (by omega), if_neg (by omega), b2 k (by omega), a2 k (by omega)]
  | .star x, o, u, h, hl => by
    have px := x.size_pos
    simp only [Rx.size] at hl
    obtain ⟨a1, a2⟩ := up_tree x o u h.star (by omega)
    obtain ⟨u1, hu1⟩ : ∃ u1, (List.range' o x.size).foldl (upS l) u = u1 := ⟨_, rfl⟩
    rw [hu1] at a1 a2
    have l1 : u1.length = u.length := by rw [← hu1, upF_len]
    have er : List.range' o (Rx.star x).size = List.range' o x.size ++ [o + x.size] := by
      simp only [Rx.size]
      rw [← List.range'_append_1]; rfl
    have ht := h.top
    rw [show o + (Rx.star x).size - 1 = o + x.size by simp only [Rx.size]; omega] at ht
    have e3 := upS_at (u := u1) ht
    simp only [Rx.top] at e3
    rw [if_neg (by decide), if_pos (by decide), Int.toNat_natCast] at e3
    rw [er, List.foldl_append, hu1, List.foldl_cons, List.foldl_nil, e3]
    refine ⟨⟨a1.same fun k h1 h2 => ?_, ?_⟩, fun k hk => ?_⟩
    · rw [getD_set (by omega), if_neg (by omega)]
    · rw [getD_set (by omega), if_pos rfl]
    · simp only [Rx.size] at hk
      rw [getD_set (by omega), if_neg (by omega), a2 k (by omega)]
  | .plus x, o, u, h, hl => by
    have px := x.size_pos
    simp only [Rx.size] at hl
    obtain ⟨a1, a2⟩ := up_tree x o u h.plus (by omega)
    obtain ⟨u1, hu1⟩ : ∃ u1, (List.range' o x.size).foldl (upS l) u = u1 := ⟨_, rfl⟩
    rw [hu1] at a1 a2
    have l1 : u1.length = u.length := by rw [← hu1, upF_len]
    have er : List.range' o (Rx.plus x).size = List.range' o x.size ++ [o + x.size] := by
      simp only [Rx.size]
      rw [← List.range'_append_1]; rfl
    have ht := h.top
    rw [show o + (Rx.plus x).size - 1 = o + x.size by simp only [Rx.size]; omega] at ht
    have e3 := upS_at (u := u1) ht
    simp only [Rx.top] at e3
    rw [if_neg (by decide), if_pos (by decide), Int.toNat_natCast] at e3
    rw [er, List.foldl_append, hu1, List.foldl_cons, List.foldl_nil, e3]
    refine ⟨⟨a1.same fun k h1 h2 => ?_, ?_⟩, fun k hk => ?_⟩
    · rw [getD_set (by omega), if_neg (by omega)]
    · rw [getD_set (by omega), if_pos rfl]
    · simp only [Rx.size] at hk
      rw [getD_set (by omega), if_neg (by omega), a2 k (by omega)]
theorem up_flat (t : Rx) : UpOk (upN (t.flat 0)) 0 t := by
  have := (up_tree t 0 (List.replicate t.size 0) (At.self t) (by simp)).1
  unfold upN
  rw [Rx.flat_len, List.range_eq_range']
  exact this
theorem part_at {l : List Nd} : ∀ (t : Rx) (o k : Nat), At l o t → o ≤ k → k < o + t.size → ∃ (p : Rx) (q : Nat), At l q p ∧ o ≤ q ∧ k = q + p.size - 1 ∧ l[k]? = some (p.top q) ∧ k < o + t.size
  | t, o, k, h, h1, h2 => by
    by_cases he : k = o + t.size - 1
    · exact ⟨t, o, h, Nat.le_refl _, he, by rw [he]; exact h.top, h2⟩
    · match t, h with
      | .nil, h => simp only [Rx.size] at h2 he; omega
      | .set s, h => simp only [Rx.size] at h2 he; omega
      | .seq x y, h =>
        simp only [Rx.size] at h2 he ⊢
        by_cases hx : k < o + x.size
        · obtain ⟨p, q, a, b, c, d, e⟩ := part_at x o k h.seq.1 h1 hx
          exact ⟨p, q, a, b, c, d, h2⟩
        · obtain ⟨p, q, a, b, c, d, e⟩ := part_at y (o + x.size) k h.seq.2 (by omega) (by omega)
          exact ⟨p, q, a, by omega, c, d, h2⟩
      | .alt x y, h =>
        simp only [Rx.size] at h2 he ⊢
        by_cases hx : k < o + x.size
        · obtain ⟨p, q, a, b, c, d, e⟩ := part_at x o k h.alt.1 h1 hx
          exact ⟨p, q, a, b, c, d, h2⟩
        · obtain ⟨p, q, a, b, c, d, e⟩ := part_at y (o + x.size) k h.alt.2 (by omega) (by omega)
          exact ⟨p, q, a, by omega, c, d, h2⟩
      | .star x, h =>
        simp only [Rx.size] at h2 he ⊢
        obtain ⟨p, q, a, b, c, d, e⟩ := part_at x o k h.star h1 (by omega)
        exact ⟨p, q, a, b, c, d, h2⟩
      | .plus x, h =>
        simp only [Rx.size] at h2 he ⊢
        obtain ⟨p, q, a, b, c, d, e⟩ := part_at x o k h.plus h1 (by omega)
        exact ⟨p, q, a, b, c, d, h2⟩
theorem up_lt {u : List Nat} : ∀ (t : Rx) (o k : Nat), UpOk u o t → o ≤ k → k + 1 < o + t.size → u.getD k 0 < o + t.size
  | .nil, o, k, h, h1, h2 => by simp only [Rx.size] at h2; omega
  | .set s, o, k, h, h1, h2 => by simp only [Rx.size] at h2; omega
  | .seq x y, o, k, h, h1, h2 => by
    have px := x.size_pos; have py := y.size_pos
    simp only [Rx.size] at h2 ⊢
    by_cases e1 : k = o + x.size - 1
    · rw [e1, h.2.2.1]; omega
    by_cases e2 : k = o + x.size + y.size - 1
    · rw [e2, h.2.2.2]; omega
    by_cases hx : k < o + x.size
    · have := up_lt x o k h.1 h1 (by omega); omega
    · have := up_lt y (o + x.size) k h.2.1 (by omega) (by omega); omega
  | .alt x y, o, k, h, h1, h2 => by
    have px := x.size_pos; have py := y.size_pos
    simp only [Rx.size] at h2 ⊢
    by_cases e1 : k = o + x.size - 1
    · rw [e1, h.2.2.1]; omega
    by_cases e2 : k = o + x.size + y.size - 1
    · rw [e2, h.2.2.2]; omega
    by_cases hx : k < o + x.size
    · have := up_lt x o k h.1 h1 (by omega); omega
    · have := up_lt y (o + x.size) k h.2.1 (by omega) (by omega); omega
  | .star x, o, k, h, h1, h2 => by
    have px := x.size_pos
    simp only [Rx.size] at h2 ⊢
    by_cases e1 : k = o + x.size - 1
    · rw [e1, h.2]; omega
    have := up_lt x o k h.1 h1 (by omega); omega
  | .plus x, o, k, h, h1, h2 => by
    have px := x.size_pos
    simp only [Rx.size] at h2 ⊢
    by_cases e1 : k = o + x.size - 1
    · rw [e1, h.2]; omega
    have := up_lt x o k h.1 h1 (by omega); omega
theorem okW_flat {t : Rx} (ht : t.size ≤ 1000000) : OkW (t.flat 0) (upN (t.flat 0)) := by
  have hl : (t.flat 0).length = t.size := Rx.flat_len t 0
  refine ⟨by omega, upN_len _, fun x n hn => ?_, fun x hx hne => ?_⟩
  · have hx := (List.getElem?_eq_some_iff.1 hn).1
    obtain ⟨p, q, a, b, c, d, e⟩ := part_at t 0 x (At.self t) (by omega) (by omega)
    rw [hn] at d
    injection d with d
    subst d
    rw [hl] at hx ⊢
    cases p with
    | nil => simp [Rx.top]
    | set s => simp [Rx.top]
    | seq y z => have := y.size_pos; have := z.size_pos; simp only [Rx.top, Rx.size, Int.toNat_natCast] at c ⊢; omega
    | alt y z => have := y.size_pos; have := z.size_pos; simp only [Rx.top, Rx.size, Int.toNat_natCast] at c ⊢; omega
    | star y => have := y.size_pos; simp only [Rx.top, Rx.size, Int.toNat_natCast] at c ⊢; omega
    | plus y => have := y.size_pos; simp only [Rx.top, Rx.size, Int.toNat_natCast] at c ⊢; omega
  · rw [hl] at hx hne ⊢
    have := up_lt t 0 x (up_flat t) (by omega) (by omega)
    omega
end Go.Eng

set_option linter.unusedVariables false
set_option linter.unusedSimpArgs false
namespace Go.Eng

inductive Mk (l : List Nd) (up : List Nat) (T : List Nat) : Nat → Nat → Prop where
  | root : Mk l up T 0 (2 * (l.length - 1))
  | eps {i u v : Nat} : Mk l up T i u → v ∈ suc l up u → Mk l up T i v
  | byte {i x c : Nat} : Mk l up T i (2 * x) → T[i]? = some c → x < l.length → setAt l x c = true → Mk l up T (i + 1) (2 * x + 1)
section
variable {l : List Nd} {up : List Nat} {T : List Nat}
theorem clo_step (hO : OkW l up) (M : Nat → Bool) (c : Nat) : ∀ (r : List Nat) (W : Nat → Bool), (∀ i ∈ r, i < l.length) → (∀ u, W u = true → ∀ s ∈ suc l up u, W s = true) →
    (∀ u, W u = true → r.foldl (stepI l up M c) W u = true) ∧ (∀ i ∈ r, M (2 * i) = true → setAt l i c = true → r.foldl (stepI l up M c) W (2 * i + 1) = true) ∧
    (∀ u, r.foldl (stepI l up M c) W u = true → ∀ s ∈ suc l up u, r.foldl (stepI l up M c) W s = true)
  | [], W, _, hW => ⟨fun u h => h, by simp, hW⟩
  | i :: r, W, hr, hW => by
    have hi := hr i (by simp)
    obtain ⟨W1, hW1⟩ : ∃ W1, stepI l up M c W i = W1 := ⟨_, rfl⟩
    have up1 : ∀ u, W u = true → W1 u = true := fun u hu => by
      rw [← hW1]; unfold stepI; split
      · exact dfsV_up _ _ _ _ _ hu
      · exact hu
    have clo1 : ∀ u, W1 u = true → ∀ s ∈ suc l up u, W1 s = true := fun u hu s hs => by
      by_cases hu' : W u = true
      · exact up1 s (hW u hu' s hs)
      · rw [← hW1] at hu ⊢
        unfold stepI at hu ⊢
        split at hu
        · rename_i hc
          rw [if_pos hc]
          exact (dfsV_clo (suc_lt hO) (2 * l.length) (2 * i + 1) W (cnt_full _ _) (by omega)).2 u hu (by simpa using hu') s hs
        · exact absurd hu hu'
    obtain ⟨a, b, d⟩ := clo_step hO M c r W1 (fun j hj => hr j (by simp [hj])) clo1
    rw [List.foldl_cons, hW1]
    refine ⟨fun u hu => a u (up1 u hu), fun j hj hm hs => ?_, d⟩
    rcases List.mem_cons.1 hj with rfl | hj
    · apply a
      rw [← hW1]; unfold stepI
      rw [hm, hs]
      exact (dfsV_clo (suc_lt hO) (2 * l.length) (2 * j + 1) W (cnt_full _ _) (by omega)).1
    · exact b j hj hm hs
theorem in_step (S : Nat → Prop) (hS : ∀ u, S u → ∀ s ∈ suc l up u, S s) (M : Nat → Bool) (c : Nat) : ∀ (r : List Nat) (W : Nat → Bool), (∀ i ∈ r, M (2 * i) = true → setAt l i c = true → S (2 * i + 1)) → (∀ u, W u = true → S u) → ∀ u, r.foldl (stepI l up M c) W u = true → S u
  | [], W, _, hW, u, h => hW u h
  | i :: r, W, hr, hW, u, h => by
    rw [List.foldl_cons] at h
    refine in_step S hS M c r _ (fun j hj => hr j (by simp [hj])) (fun u hu => ?_) u h
    unfold stepI at hu
    split at hu
    · rename_i hc
      rw [Bool.and_eq_true] at hc
      exact dfsV_in hS _ _ _ hW (hr i (by simp) hc.1 hc.2) u hu
    · exact hW u hu
theorem marks_iff (hO : OkW l up) (h0 : 0 < l.length) : ∀ i, i ≤ T.length → ∀ u, runM l up (T.take i) (mark0 l up) u = true ↔ Mk l up T i u := by
  intro i
  induction i with
  | zero =>
    intro _ u
    have hc := dfsV_clo (suc_lt hO) (2 * l.length) (2 * (l.length - 1)) none2 (cnt_full _ _) (by omega)
    show mark0 l up u = true ↔ _
    constructor
    · intro h
      exact dfsV_in (S := fun u => Mk l up T 0 u) (fun u hu s hs => .eps hu hs) _ _ _ (fun u hu => by cases hu) .root u h
    · intro h
      have : ∀ i u, Mk l up T i u → i = 0 → mark0 l up u = true := by
        intro i u h
        induction h with
        | root => intro _; exact hc.1
        | eps h1 h2 ih => intro hi; exact hc.2 _ (ih hi) rfl _ h2
        | byte => intro hi; omega
      exact this _ _ h rfl
  | succ i ih =>
    intro hi u
    have hil : i < T.length := by omega
    have ihi := ih (by omega)
    have ht : T.take (i + 1) = T.take i ++ [T[i]] := by rw [List.take_add_one, List.getElem?_eq_getElem hil]; rfl
    have hr : runM l up (T.take (i + 1)) (mark0 l up) = markS l up (runM l up (T.take i) (mark0 l up)) T[i] := by
      unfold runM; rw [ht, List.foldl_append]; rfl
    rw [hr, markS_eq]
    obtain ⟨M, hM⟩ : ∃ M, runM l up (T.take i) (mark0 l up) = M := ⟨_, rfl⟩
    rw [hM] at ihi ⊢
    obtain ⟨_, b, d⟩ := clo_step hO M T[i] (List.range' 0 l.length) none2 (fun j hj => by rw [List.mem_range'_1] at hj; omega) (fun u hu => by cases hu)
    constructor
    · intro h
      exact in_step (fun u => Mk l up T (i + 1) u) (fun u hu s hs => .eps hu hs) M T[i] (List.range' 0 l.length) none2 (fun j hj hm hs => by
        rw [List.mem_range'_1] at hj
        exact .byte ((ihi _).1 hm) (List.getElem?_eq_getElem hil) (by omega) hs) (fun u hu => by cases hu) u h
    · intro h
      have : ∀ k u, Mk l up T k u → k = i + 1 → (List.range' 0 l.length).foldl (stepI l up M T[i]) none2 u = true := by
        intro k u h
        induction h with
        | root => intro hk; omega
        | eps h1 h2 ih => intro hk; exact d _ (ih hk) _ h2
        | byte h1 h2 h3 h4 ih =>
          intro hk
          obtain rfl : _ = i := Nat.succ.inj hk
          rw [List.getElem?_eq_getElem hil] at h2
          injection h2 with h2
          subst h2
          exact b _ (by rw [List.mem_range'_1]; omega) ((ihi _).2 h1) h4
      exact this _ _ h rfl
end
section
variable {l : List Nd} {up : List Nat} {T : List Nat}
theorem comp (x : Rx) : ∀ (o : Nat), At l o x → UpOk up o x → o + x.size ≤ l.length → ∀ i j, Mt T x i j → Mk l up T i (2 * (o + x.size - 1)) → Mk l up T j (2 * (o + x.size - 1) + 1) := by
  have many : ∀ (x : Rx) (r p : Nat), (∀ i j, Mt T x i j → Mk l up T i (2 * r) → Mk l up T j (2 * r + 1)) → (2 * r ∈ suc l up (2 * r + 1) ∧ 2 * p + 1 ∈ suc l up (2 * r + 1)) →
      ∀ t i j, Mt T t i j → t = .star x → Mk l up T i (2 * r) → Mk l up T i (2 * p + 1) → Mk l up T j (2 * p + 1) := by
    intro x r p hx hs t i j h
    induction h with
    | star0 h => intro _ _ h2; exact h2
    | starS h1 h2 ih1 ih2 =>
      intro he hb hp
      injection he with he
      subst he
      have := hx _ _ h1 hb
      exact ih2 rfl (.eps this hs.1) (.eps this hs.2)
    | _ => intro he; cases he
  induction x with
  | nil =>
    intro o ha hu hl i j h hb
    cases h
    refine .eps hb ?_
    rw [suc_even ha.top, Rx.top, if_pos rfl]; simp
  | set s =>
    intro o ha hu hl i j h hb
    cases h with
    | set h1 h2 =>
      refine .byte hb h1 (by simp only [Rx.size] at hl ⊢; omega) ?_
      unfold setAt
      rw [ha.top]
      simp [Rx.top, h2]
  | seq x y ihx ihy =>
    intro o ha hu hl i j h hb
    have px := x.size_pos; have py := y.size_pos
    have ht := ha.top
    simp only [Rx.size] at hl ht hb ⊢
    rw [show o + (x.size + y.size + 1) - 1 = o + x.size + y.size by omega] at ht hb ⊢
    cases h with
    | seq h1 h2 =>
      have b1 : Mk l up T i (2 * (o + x.size - 1)) := .eps hb (by rw [suc_even ht, Rx.top]; simp)
      have e1 := ihx o ha.seq.1 hu.1 (by omega) _ _ h1 b1
      have b2 : Mk l up T _ (2 * (o + x.size + y.size - 1)) := .eps e1 (by
        rw [suc_odd (by omega) hu.2.2.1 ht, Rx.top, if_pos ⟨rfl, rfl⟩]; simp)
      have e2 := ihy (o + x.size) ha.seq.2 hu.2.1 (by omega) _ _ h2 b2
      refine .eps e2 ?_
      rw [suc_odd (by omega) hu.2.2.2 ht, Rx.top, if_neg (by simp only; omega), if_neg (by simp)]
      simp
  | alt x y ihx ihy =>
    intro o ha hu hl i j h hb
    have px := x.size_pos; have py := y.size_pos
    have ht := ha.top
    simp only [Rx.size] at hl ht hb ⊢
    rw [show o + (x.size + y.size + 1) - 1 = o + x.size + y.size by omega] at ht hb ⊢
    cases h with
    | altL h1 =>
      have b1 : Mk l up T i (2 * (o + x.size - 1)) := .eps hb (by rw [suc_even ht, Rx.top]; simp)
      have e1 := ihx o ha.alt.1 hu.1 (by omega) _ _ h1 b1
      refine .eps e1 ?_
      rw [suc_odd (by omega) hu.2.2.1 ht, Rx.top, if_neg (by simp), if_neg (by simp)]
      simp
    | altR h1 =>
      have b1 : Mk l up T i (2 * (o + x.size + y.size - 1)) := .eps hb (by rw [suc_even ht, Rx.top]; simp)
      have e1 := ihy (o + x.size) ha.alt.2 hu.2.1 (by omega) _ _ h1 b1
      refine .eps e1 ?_
      rw [suc_odd (by omega) hu.2.2.2 ht, Rx.top, if_neg (by simp), if_neg (by simp)]
      simp
  | star x ihx =>
    intro o ha hu hl i j h hb
    have px := x.size_pos
    have ht := ha.top
    simp only [Rx.size] at hl ht hb ⊢
    rw [show o + (x.size + 1) - 1 = o + x.size by omega] at ht hb ⊢
    have hs : 2 * (o + x.size - 1) ∈ suc l up (2 * (o + x.size - 1) + 1) ∧ 2 * (o + x.size) + 1 ∈ suc l up (2 * (o + x.size - 1) + 1) := by
      rw [suc_odd (by omega) hu.2 ht, Rx.top, if_neg (by simp), if_pos (by simp)]
      simp
    have b1 : Mk l up T i (2 * (o + x.size - 1)) := .eps hb (by rw [suc_even ht, Rx.top]; simp)
    have b2 : Mk l up T i (2 * (o + x.size) + 1) := .eps hb (by rw [suc_even ht, Rx.top]; simp)
    exact many x (o + x.size - 1) (o + x.size) (ihx o ha.star hu.1 (by omega)) hs _ _ _ h rfl b1 b2
  | plus x ihx =>
    intro o ha hu hl i j h hb
    have px := x.size_pos
    have ht := ha.top
    simp only [Rx.size] at hl ht hb ⊢
    rw [show o + (x.size + 1) - 1 = o + x.size by omega] at ht hb ⊢
    have hs : 2 * (o + x.size - 1) ∈ suc l up (2 * (o + x.size - 1) + 1) ∧ 2 * (o + x.size) + 1 ∈ suc l up (2 * (o + x.size - 1) + 1) := by
      rw [suc_odd (by omega) hu.2 ht, Rx.top, if_neg (by simp), if_pos (by simp)]
      simp
    have b1 : Mk l up T i (2 * (o + x.size - 1)) := .eps hb (by rw [suc_even ht, Rx.top]; simp)
    cases h with
    | plus h1 h2 =>
      have e1 := ihx o ha.plus hu.1 (by omega) _ _ h1 b1
      exact many x (o + x.size - 1) (o + x.size) (ihx o ha.plus hu.1 (by omega)) hs _ _ _ h2 rfl (.eps e1 hs.1) (.eps e1 hs.2)
end
inductive Sub (T : List Nat) (R : Rx) : Nat → Rx → (Nat → Prop) → Prop where
  | top : Sub T R 0 R (fun i => i = 0)
  | seqL {o : Nat} {x y : Rx} {S : Nat → Prop} : Sub T R o (.seq x y) S → Sub T R o x S
  | seqR {o : Nat} {x y : Rx} {S : Nat → Prop} : Sub T R o (.seq x y) S → Sub T R (o + x.size) y (fun k => ∃ i, S i ∧ Mt T x i k)
  | altL {o : Nat} {x y : Rx} {S : Nat → Prop} : Sub T R o (.alt x y) S → Sub T R o x S
  | altR {o : Nat} {x y : Rx} {S : Nat → Prop} : Sub T R o (.alt x y) S → Sub T R (o + x.size) y S
  | star {o : Nat} {x : Rx} {S : Nat → Prop} : Sub T R o (.star x) S → Sub T R o x (fun k => ∃ i, S i ∧ Mt T (.star x) i k)
  | plus {o : Nat} {x : Rx} {S : Nat → Prop} : Sub T R o (.plus x) S → Sub T R o x (fun k => ∃ i, S i ∧ Mt T (.star x) i k)
section
variable {T : List Nat} {R : Rx}
theorem Sub.ok {o : Nat} {x : Rx} {S : Nat → Prop} (h : Sub T R o x S) : At (R.flat 0) o x ∧ UpOk (upN (R.flat 0)) o x ∧ o + x.size ≤ R.size := by
  induction h with
  | top => exact ⟨At.self R, up_flat R, by omega⟩
  | seqL _ ih => obtain ⟨a, b, c⟩ := ih; simp only [Rx.size] at c; exact ⟨a.seq.1, b.1, by omega⟩
  | seqR _ ih => obtain ⟨a, b, c⟩ := ih; simp only [Rx.size] at c; exact ⟨a.seq.2, b.2.1, by omega⟩
  | altL _ ih => obtain ⟨a, b, c⟩ := ih; simp only [Rx.size] at c; exact ⟨a.alt.1, b.1, by omega⟩
  | altR _ ih => obtain ⟨a, b, c⟩ := ih; simp only [Rx.size] at c; exact ⟨a.alt.2, b.2.1, by omega⟩
  | star _ ih => obtain ⟨a, b, c⟩ := ih; simp only [Rx.size] at c; exact ⟨a.star, b.1, by omega⟩
  | plus _ ih => obtain ⟨a, b, c⟩ := ih; simp only [Rx.size] at c; exact ⟨a.plus, b.1, by omega⟩
def Qm (T : List Nat) (R : Rx) (i u : Nat) : Prop := i ≤ T.length ∧ ∃ o x S, Sub T R o x S ∧ ((u = 2 * (o + x.size - 1) ∧ S i) ∨ (u = 2 * (o + x.size - 1) + 1 ∧ ∃ i0, S i0 ∧ Mt T x i0 i))
theorem qm_eps {i u v : Nat} (h : Qm T R i u) (hv : v ∈ suc (R.flat 0) (upN (R.flat 0)) u) : Qm T R i v := by
  obtain ⟨hi, o, x, S, hs, h⟩ := h
  have hlen : (R.flat 0).length = R.size := Rx.flat_len R 0
  refine ⟨hi, ?_⟩
  obtain ⟨ha, hu, hb⟩ := hs.ok
  rcases h with ⟨rfl, h⟩ | ⟨rfl, i0, h0, hm⟩
  · rw [suc_even ha.top] at hv
    cases x with
    | nil => simp [Rx.top] at hv; subst hv; exact ⟨o, .nil, S, hs, .inr ⟨rfl, i, h, .nil hi⟩⟩
    | set s => simp [Rx.top] at hv
    | seq a b =>
      simp only [Rx.top, Int.toNat_natCast] at hv
      simp at hv
      subst hv
      exact ⟨o, a, S, hs.seqL, .inl ⟨rfl, h⟩⟩
    | alt a b =>
      simp only [Rx.top, Int.toNat_natCast] at hv
      simp at hv
      rcases hv with rfl | rfl
      · exact ⟨o, a, S, hs.altL, .inl ⟨rfl, h⟩⟩
      · exact ⟨o + a.size, b, S, hs.altR, .inl ⟨rfl, h⟩⟩
    | star a =>
      simp only [Rx.top, Int.toNat_natCast] at hv
      simp at hv
      rcases hv with rfl | rfl
      · exact ⟨o, .star a, S, hs, .inr ⟨rfl, i, h, .star0 hi⟩⟩
      · exact ⟨o, a, _, hs.star, .inl ⟨rfl, i, h, .star0 hi⟩⟩
    | plus a =>
      simp only [Rx.top, Int.toNat_natCast] at hv
      simp at hv
      subst hv
      exact ⟨o, a, _, hs.plus, .inl ⟨rfl, i, h, .star0 hi⟩⟩
  · cases hs with
    | top =>
      have := suc_end (l := R.flat 0) (up := upN (R.flat 0))
      rw [hlen] at this
      rw [Nat.zero_add, this] at hv
      cases hv
    | seqL hp =>
      rename_i y
      obtain ⟨pa, pu, pb⟩ := hp.ok
      have px := x.size_pos; have py := y.size_pos
      have ht := pa.top
      simp only [Rx.size] at ht pb
      rw [show o + (x.size + y.size + 1) - 1 = o + x.size + y.size by omega] at ht
      rw [suc_odd (by omega) pu.2.2.1 ht, Rx.top, if_pos ⟨rfl, rfl⟩] at hv
      simp only [Int.toNat_natCast, List.mem_cons, List.not_mem_nil, or_false] at hv
      exact ⟨_, y, _, hp.seqR, .inl ⟨hv, i0, h0, hm⟩⟩
    | seqR hp =>
      rename_i o x' S'
      obtain ⟨pa, pu, pb⟩ := hp.ok
      have px := x.size_pos; have py := x'.size_pos
      have ht := pa.top
      simp only [Rx.size] at ht pb
      rw [show o + (x'.size + x.size + 1) - 1 = o + x'.size + x.size by omega] at ht
      rw [suc_odd (by omega) pu.2.2.2 ht, Rx.top, if_neg (by simp only; omega), if_neg (by simp)] at hv
      simp only [List.mem_cons, List.not_mem_nil, or_false] at hv
      obtain ⟨i1, h1, h2⟩ := h0
      exact ⟨o, .seq x' x, S', hp, .inr ⟨by rw [hv]; simp only [Rx.size]; omega, i1, h1, .seq h2 hm⟩⟩
    | altL hp =>
      rename_i y
      obtain ⟨pa, pu, pb⟩ := hp.ok
      have px := x.size_pos; have py := y.size_pos
      have ht := pa.top
      simp only [Rx.size] at ht pb
      rw [show o + (x.size + y.size + 1) - 1 = o + x.size + y.size by omega] at ht
      rw [suc_odd (by omega) pu.2.2.1 ht, Rx.top, if_neg (by simp), if_neg (by simp)] at hv
      simp only [List.mem_cons, List.not_mem_nil, or_false] at hv
      exact ⟨o, .alt x y, S, hp, .inr ⟨by rw [hv]; simp only [Rx.size]; omega, i0, h0, .altL hm⟩⟩
    | altR hp =>
      rename_i o x'
      obtain ⟨pa, pu, pb⟩ := hp.ok
      have px := x.size_pos; have py := x'.size_pos
      have ht := pa.top
      simp only [Rx.size] at ht pb
      rw [show o + (x'.size + x.size + 1) - 1 = o + x'.size + x.size by omega] at ht
      rw [suc_odd (by omega) pu.2.2.2 ht, Rx.top, if_neg (by simp), if_neg (by simp)] at hv
      simp only [List.mem_cons, List.not_mem_nil, or_false] at hv
      exact ⟨o, .alt x' x, S, hp, .inr ⟨by rw [hv]; simp only [Rx.size]; omega, i0, h0, .altR hm⟩⟩
    | star hp =>
      rename_i S'
      obtain ⟨pa, pu, pb⟩ := hp.ok
      have px := x.size_pos
      have ht := pa.top
      simp only [Rx.size] at ht pb
      rw [show o + (x.size + 1) - 1 = o + x.size by omega] at ht
      rw [suc_odd (by omega) pu.2 ht, Rx.top, if_neg (by simp), if_pos (by simp)] at hv
      simp only [List.mem_cons, List.not_mem_nil, or_false] at hv
      obtain ⟨i1, h1, h2⟩ := h0
      rcases hv with rfl | hv
      · exact ⟨o, x, _, hp.star, .inl ⟨rfl, i1, h1, h2.snoc rfl hm⟩⟩
      · exact ⟨o, .star x, S', hp, .inr ⟨by rw [hv]; simp only [Rx.size]; omega, i1, h1, h2.snoc rfl hm⟩⟩
    | plus hp =>
      rename_i S'
      obtain ⟨pa, pu, pb⟩ := hp.ok
      have px := x.size_pos
      have ht := pa.top
      simp only [Rx.size] at ht pb
      rw [show o + (x.size + 1) - 1 = o + x.size by omega] at ht
      rw [suc_odd (by omega) pu.2 ht, Rx.top, if_neg (by simp), if_pos (by simp)] at hv
      simp only [List.mem_cons, List.not_mem_nil, or_false] at hv
      obtain ⟨i1, h1, h2⟩ := h0
      rcases hv with rfl | hv
      · exact ⟨o, x, _, hp.plus, .inl ⟨rfl, i1, h1, h2.snoc rfl hm⟩⟩
      · exact ⟨o, .plus x, S', hp, .inr ⟨by rw [hv]; simp only [Rx.size]; omega, i1, h1, h2.plus_snoc hm⟩⟩
theorem qm_byte {i x c : Nat} (h : Qm T R i (2 * x)) (hc : T[i]? = some c) (hs : setAt (R.flat 0) x c = true) : Qm T R (i + 1) (2 * x + 1) := by
  obtain ⟨hi, o, t, S, hsb, h⟩ := h
  have hil := (List.getElem?_eq_some_iff.1 hc).1
  refine ⟨hil, ?_⟩
  rcases h with ⟨he, h⟩ | ⟨he, _⟩
  · obtain rfl : x = o + t.size - 1 := by omega
    obtain ⟨ha, _, _⟩ := hsb.ok
    unfold setAt at hs
    rw [ha.top] at hs
    cases t with
    | set s => exact ⟨o, .set s, S, hsb, .inr ⟨rfl, i, h, .set hc (by simpa [Rx.top] using hs)⟩⟩
    | _ => simp [Rx.top] at hs
  · omega
theorem mk_qm {i u : Nat} (h : Mk (R.flat 0) (upN (R.flat 0)) T i u) : Qm T R i u := by
  induction h with
  | root => exact ⟨Nat.zero_le _, 0, R, _, .top, .inl ⟨by rw [Rx.flat_len, Nat.zero_add], rfl⟩⟩
  | eps _ h2 ih => exact qm_eps ih h2
  | byte _ h2 _ h4 ih => exact qm_byte ih h2 h4
theorem takesN_iff (hR : R.size ≤ 1000000) : takesN (R.flat 0) T = true ↔ Mt T R 0 T.length := by
  have hlen : (R.flat 0).length = R.size := Rx.flat_len R 0
  have pR := R.size_pos
  have hm := marks_iff (T := T) (okW_flat hR) (by omega) T.length (Nat.le_refl _) (2 * ((R.flat 0).length - 1) + 1)
  rw [List.take_length] at hm
  unfold takesN
  rw [hm]
  constructor
  · intro h
    obtain ⟨_, o, x, S, hs, h⟩ := mk_qm h
    rw [hlen] at h
    rcases h with ⟨he, _⟩ | ⟨he, i0, h0, h1⟩
    · omega
    · have px := x.size_pos
      cases hs with
      | top => subst h0; exact h1
      | seqL hp => have := hp.ok.2.2; simp only [Rx.size] at this; omega
      | seqR hp => have := hp.ok.2.2; simp only [Rx.size] at this; omega
      | altL hp => have := hp.ok.2.2; simp only [Rx.size] at this; omega
      | altR hp => have := hp.ok.2.2; simp only [Rx.size] at this; omega
      | star hp => have := hp.ok.2.2; simp only [Rx.size] at this; omega
      | plus hp => have := hp.ok.2.2; simp only [Rx.size] at this; omega
  · intro h
    have := comp (l := R.flat 0) (up := upN (R.flat 0)) R 0 (At.self R) (up_flat R) (by rw [hlen]; omega) _ _ h (by
      have := Mk.root (l := R.flat 0) (up := upN (R.flat 0)) (T := T)
      rw [hlen] at this
      rwa [Nat.zero_add])
    rw [Nat.zero_add, ← hlen] at this
    exact this
end
end Go.Eng

set_option linter.unusedVariables false
set_option linter.unusedSimpArgs false
namespace Go.Eng

def SOk : Rx → Prop
  | .nil => True
  | .set s => s < 2 ^ 256
  | .seq x y => SOk x ∧ SOk y
  | .alt x y => SOk x ∧ SOk y
  | .star x => SOk x
  | .plus x => SOk x
theorem SOk.of {l : List Nd} (hl : ∀ n ∈ l, n.set < 2 ^ 256) : ∀ (t : Rx) (o : Nat), At l o t → SOk t
  | .nil, _, _ => trivial
  | .set s, o, h => hl _ (List.mem_of_getElem? h.top)
  | .seq x y, o, h => ⟨SOk.of hl x o h.seq.1, SOk.of hl y _ h.seq.2⟩
  | .alt x y, o, h => ⟨SOk.of hl x o h.alt.1, SOk.of hl y _ h.alt.2⟩
  | .star x, o, h => SOk.of hl x o h.star
  | .plus x, o, h => SOk.of hl x o h.plus
theorem sz_back {l : List Nd} : ∀ (t : Rx) (o f : Nat), At l o t → o + t.size ≤ f → szN l f (o + t.size) = t.size
  | .nil, o, f, h, hf => by
    obtain ⟨f, rfl⟩ : ∃ g, f = g + 1 := ⟨f - 1, by simp only [Rx.size] at hf; omega⟩
    have ht := h.top
    simp only [Rx.size, Nat.add_sub_cancel] at ht ⊢
    rw [szN, ht]; simp [Rx.top, sameS]
  | .set s, o, f, h, hf => by
    obtain ⟨f, rfl⟩ : ∃ g, f = g + 1 := ⟨f - 1, by simp only [Rx.size] at hf; omega⟩
    have ht := h.top
    simp only [Rx.size, Nat.add_sub_cancel] at ht ⊢
    rw [szN, ht]; simp [Rx.top]
  | .seq x y, o, f, h, hf => by
    have px := x.size_pos; have py := y.size_pos
    simp only [Rx.size] at hf ⊢
    obtain ⟨f, rfl⟩ : ∃ g, f = g + 1 := ⟨f - 1, by omega⟩
    have ht := h.top
    simp only [Rx.size] at ht
    rw [show o + (x.size + y.size + 1) - 1 = o + x.size + y.size by omega] at ht
    have h1 := sz_back y (o + x.size) f h.seq.2 (by omega)
    have h2 := sz_back x o f h.seq.1 (by omega)
    rw [show o + (x.size + y.size + 1) = (o + x.size + y.size) + 1 by omega, szN, ht]
    simp only [Rx.top, h1, show o + x.size + y.size - y.size = o + x.size by omega, h2]
    rw [if_neg (by simp [sameS]), if_neg (by decide), if_neg (by decide), if_pos (by decide), if_pos ⟨by omega, by omega, by omega, by omega⟩]
    omega
  | .alt x y, o, f, h, hf => by
    have px := x.size_pos; have py := y.size_pos
    simp only [Rx.size] at hf ⊢
    obtain ⟨f, rfl⟩ : ∃ g, f = g + 1 := ⟨f - 1, by omega⟩
    have ht := h.top
    simp only [Rx.size] at ht
    rw [show o + (x.size + y.size + 1) - 1 = o + x.size + y.size by omega] at ht
    have h1 := sz_back y (o + x.size) f h.alt.2 (by omega)
    have h2 := sz_back x o f h.alt.1 (by omega)
    rw [show o + (x.size + y.size + 1) = (o + x.size + y.size) + 1 by omega, szN, ht]
    simp only [Rx.top, h1, show o + x.size + y.size - y.size = o + x.size by omega, h2]
    rw [if_neg (by simp [sameS]), if_neg (by decide), if_neg (by decide), if_pos (by decide), if_pos ⟨by omega, by omega, by omega, by omega⟩]
    omega
  | .star x, o, f, h, hf => by
    have px := x.size_pos
    simp only [Rx.size] at hf ⊢
    obtain ⟨f, rfl⟩ : ∃ g, f = g + 1 := ⟨f - 1, by omega⟩
    have ht := h.top
    simp only [Rx.size] at ht
    rw [show o + (x.size + 1) - 1 = o + x.size by omega] at ht
    have h2 := sz_back x o f h.star (by omega)
    rw [show o + (x.size + 1) = (o + x.size) + 1 by omega, szN, ht]
    simp only [Rx.top, h2]
    rw [if_neg (by simp [sameS]), if_neg (by decide), if_pos (by decide), if_pos ⟨by omega, by omega, trivial⟩]
  | .plus x, o, f, h, hf => by
    have px := x.size_pos
    simp only [Rx.size] at hf ⊢
    obtain ⟨f, rfl⟩ : ∃ g, f = g + 1 := ⟨f - 1, by omega⟩
    have ht := h.top
    simp only [Rx.size] at ht
    rw [show o + (x.size + 1) - 1 = o + x.size by omega] at ht
    have h2 := sz_back x o f h.plus (by omega)
    rw [show o + (x.size + 1) = (o + x.size) + 1 by omega, szN, ht]
    simp only [Rx.top, h2]
    rw [if_neg (by simp [sameS]), if_neg (by decide), if_pos (by decide), if_pos ⟨by omega, by omega, trivial⟩]
theorem chk_flat {t : Rx} (ht : t.size ≤ 256) : chkN (t.flat 0) = 0 := by
  have hl : (t.flat 0).length = t.size := Rx.flat_len t 0
  have := t.size_pos
  have h := sz_back (l := t.flat 0) t 0 t.size (At.self t) (by omega)
  rw [Nat.zero_add] at h
  unfold chkN
  rw [hl, if_neg (by omega), if_neg (by rw [h]; omega)]
end Go.Eng
