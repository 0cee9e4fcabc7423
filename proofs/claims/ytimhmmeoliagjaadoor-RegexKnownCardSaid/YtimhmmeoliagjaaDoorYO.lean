import Derived.Test.YtimhmmeoliagjaaDoorQP
import Derived.Test.YtimhmmeoliagjaaDoorYJ
set_option linter.unusedVariables false
namespace Go.Eng

def mrk (v : Nat) (M : Nat → Bool) : Nat → Bool := fun u => u == v || M u
def dfsV (suc : Nat → List Nat) : Nat → Nat → (Nat → Bool) → (Nat → Bool)
  | 0, _, M => M
  | f + 1, v, M => if M v then M else (suc v).foldl (fun M s => dfsV suc f s M) (mrk v M)
def cnt (M : Nat → Bool) : Nat → Nat
  | 0 => 0
  | N + 1 => cnt M N + (if M N then 0 else 1)
theorem cnt_le {M M' : Nat → Bool} (h : ∀ u, M u = true → M' u = true) : ∀ N, cnt M' N ≤ cnt M N
  | 0 => Nat.le_refl _
  | N + 1 => by
    have := cnt_le h N
    rw [cnt, cnt]
    by_cases hm : M N = true
    · rw [if_pos hm, if_pos (h N hm)]; omega
    · rw [if_neg hm]
      split <;> omega
theorem mrk_up {v : Nat} {M : Nat → Bool} : ∀ u, M u = true → mrk v M u = true := fun u h => by simp [mrk, h]
theorem mrk_self {v : Nat} {M : Nat → Bool} : mrk v M v = true := by simp [mrk]
theorem cnt_mrk {v : Nat} {M : Nat → Bool} (h : M v = false) : ∀ {N}, v < N → cnt (mrk v M) N < cnt M N
  | 0, hv => by omega
  | N + 1, hv => by
    rw [cnt, cnt]
    by_cases he : v = N
    · subst he
      have := cnt_le (M := M) (M' := mrk v M) mrk_up v
      rw [if_pos mrk_self, h]
      simp; omega
    · have := cnt_mrk h (N := N) (by omega)
      by_cases hm : M N = true
      · rw [if_pos hm, if_pos (mrk_up N hm)]; omega
      · rw [if_neg hm]
        split <;> omega
theorem cnt_zero {M : Nat → Bool} : ∀ {N v : Nat}, cnt M N = 0 → v < N → M v = true
  | 0, v, _, h => by omega
  | N + 1, v, h, hv => by
    rw [cnt] at h
    by_cases he : v = N
    · subst he
      by_cases hm : M v = true
      · exact hm
      · rw [if_neg hm] at h; omega
    · exact cnt_zero (N := N) (by omega) (by omega)
theorem dfsV_up (suc : Nat → List Nat) : ∀ (f v : Nat) (M : Nat → Bool) (u : Nat), M u = true → dfsV suc f v M u = true
  | 0, v, M, u, h => h
  | f + 1, v, M, u, h => by
    rw [dfsV]
    split
    · exact h
    · have : ∀ (l : List Nat) (M : Nat → Bool), M u = true → l.foldl (fun M s => dfsV suc f s M) M u = true := by
        intro l
        induction l with
        | nil => intro M h; exact h
        | cons s l ih => intro M h; exact ih _ (dfsV_up suc f s M u h)
      exact this _ _ (mrk_up u h)
theorem fold_up (suc : Nat → List Nat) (f : Nat) : ∀ (l : List Nat) (M : Nat → Bool) (u : Nat), M u = true → l.foldl (fun M s => dfsV suc f s M) M u = true := by
  intro l
  induction l with
  | nil => intro M u h; exact h
  | cons s l ih => intro M u h; exact ih _ u (dfsV_up suc f s M u h)
def Clo (suc : Nat → List Nat) (M M' : Nat → Bool) : Prop := ∀ u, M' u = true → M u = false → ∀ s ∈ suc u, M' s = true
theorem dfsV_clo {suc : Nat → List Nat} {N : Nat} (hN : ∀ u, u < N → ∀ s ∈ suc u, s < N) : ∀ (f v : Nat) (M : Nat → Bool), cnt M N ≤ f → v < N → dfsV suc f v M v = true ∧ Clo suc M (dfsV suc f v M)
  | 0, v, M, hc, hv => ⟨by rw [dfsV]; exact cnt_zero (N := N) (by omega) hv, fun u h1 h2 => by rw [dfsV] at h1; rw [h1] at h2; cases h2⟩
  | f + 1, v, M, hc, hv => by
    rw [dfsV]
    by_cases hm : M v = true
    · rw [if_pos hm]
      exact ⟨hm, fun u h1 h2 => by rw [h1] at h2; cases h2⟩
    rw [if_neg hm]
    have hm' : M v = false := by simpa using hm
    have fold : ∀ (l : List Nat) (M : Nat → Bool), cnt M N ≤ f → (∀ s ∈ l, s < N) → (∀ s ∈ l, l.foldl (fun M s => dfsV suc f s M) M s = true) ∧ Clo suc M (l.foldl (fun M s => dfsV suc f s M) M) := by
      intro l
      induction l with
      | nil => intro M _ _; exact ⟨by simp, fun u h1 h2 => by rw [List.foldl_nil] at h1; rw [h1] at h2; cases h2⟩
      | cons s l ih =>
        intro M hc hl
        obtain ⟨h1, h2⟩ := dfsV_clo hN f s M hc (hl s (by simp))
        obtain ⟨h3, h4⟩ := ih (dfsV suc f s M) (Nat.le_trans (cnt_le (dfsV_up suc f s M) N) hc) fun x hx => hl x (by simp [hx])
        rw [List.foldl_cons]
        refine ⟨fun x hx => ?_, fun u hu hM x hx => ?_⟩
        · rcases List.mem_cons.1 hx with rfl | hx
          · exact fold_up suc f l _ _ h1
          · exact h3 x hx
        · by_cases hu' : dfsV suc f s M u = true
          · exact fold_up suc f l _ _ (h2 u hu' hM x hx)
          · exact h4 u hu (by simpa using hu') x hx
    have hlt := cnt_mrk hm' hv
    obtain ⟨h1, h2⟩ := fold (suc v) (mrk v M) (by omega) (hN v hv)
    refine ⟨fold_up suc f _ _ _ mrk_self, fun u hu hM x hx => ?_⟩
    by_cases he : u = v
    · subst he; exact h1 x hx
    · exact h2 u hu (by simp [mrk, hM, he]) x hx
theorem dfsV_in {suc : Nat → List Nat} {S : Nat → Prop} (hS : ∀ u, S u → ∀ s ∈ suc u, S s) : ∀ (f v : Nat) (M : Nat → Bool), (∀ u, M u = true → S u) → S v → ∀ u, dfsV suc f v M u = true → S u
  | 0, v, M, hM, hv, u, h => hM u h
  | f + 1, v, M, hM, hv, u, h => by
    rw [dfsV] at h
    split at h
    · exact hM u h
    · have fold : ∀ (l : List Nat) (M : Nat → Bool), (∀ u, M u = true → S u) → (∀ s ∈ l, S s) → ∀ u, l.foldl (fun M s => dfsV suc f s M) M u = true → S u := by
        intro l
        induction l with
        | nil => intro M hM _ u h; exact hM u h
        | cons s l ih =>
          intro M hM hl
          exact ih _ (dfsV_in hS f s M hM (hl s (by simp))) fun x hx => hl x (by simp [hx])
      refine fold (suc v) (mrk v M) (fun u hu => ?_) (hS v hv) u h
      simp only [mrk, Bool.or_eq_true, beq_iff_eq] at hu
      rcases hu with rfl | hu
      · exact hv
      · exact hM u hu
def suc (l : List Nd) (up : List Nat) (u : Nat) : List Nat :=
  if u % 2 = 0 then
    match l[u / 2]? with
    | none => []
    | some n =>
      if n.kind = 1 then [u + 1]
      else if n.kind = 3 then [2 * n.a.toNat]
      else if n.kind = 4 then [2 * n.a.toNat, 2 * n.b.toNat]
      else if n.kind = 5 then [u + 1, 2 * n.a.toNat]
      else if n.kind = 6 then [2 * n.a.toNat]
      else []
  else if u / 2 = l.length - 1 then []
  else match l[up.getD (u / 2) 0]? with
    | none => []
    | some n =>
      if n.kind = 3 ∧ ((u / 2 : Nat) : Int) = n.a then [2 * n.b.toNat]
      else if n.kind = 5 ∨ n.kind = 6 then [u - 1, 2 * up.getD (u / 2) 0 + 1]
      else [2 * up.getD (u / 2) 0 + 1]
def none2 : Nat → Bool := fun _ => false
def mark0 (l : List Nd) (up : List Nat) : Nat → Bool := dfsV (suc l up) (2 * l.length) (2 * (l.length - 1)) none2
def setAt (l : List Nd) (i c : Nat) : Bool := match l[i]? with | none => false | some n => decide (n.kind = 2) && n.set.testBit c
def markS (l : List Nd) (up : List Nat) (M : Nat → Bool) (c : Nat) : Nat → Bool :=
  (List.range l.length).foldl (fun W i => if M (2 * i) && setAt l i c then dfsV (suc l up) (2 * l.length) (2 * i + 1) W else W) none2
end Go.Eng

set_option linter.unusedVariables false
set_option linter.unusedSimpArgs false
set_option linter.unusedSectionVars false
set_option maxRecDepth 100000
namespace Go.Eng
open Go Go.Proofs

def MB (k n : Nat) (M : Nat → Bool) : List Value := (List.range n).map fun x => .bool (M (2 * x + k))
theorem MB_len (k n : Nat) (M : Nat → Bool) : (MB k n M).length = n := by simp [MB]
theorem MB_at {k n x : Nat} {M : Nat → Bool} (h : x < n) : (MB k n M)[x]? = some (.bool (M (2 * x + k))) := by simp [MB, h]
theorem MB_set {k n x : Nat} {M : Nat → Bool} (hk : k < 2) (h : x < n) : (MB k n M).set x (.bool true) = MB k n (mrk (2 * x + k) M) := by
  apply List.ext_getElem?
  intro i
  rw [List.getElem?_set]
  by_cases hi : i < n
  · rw [MB_at hi]
    by_cases he : x = i
    · subst he
      rw [if_pos rfl, if_pos (by rw [MB_len]; exact hi)]
      rw [MB_at (M := mrk (2 * x + k) M) h, mrk_self]
    · rw [if_neg he, MB_at hi]
      have : (2 * i + k == 2 * x + k) = false := by rw [beq_eq_false_iff_ne]; omega
      simp [mrk, this]
  · rw [List.getElem?_eq_none (by rw [MB_len]; omega), List.getElem?_eq_none (by rw [MB_len]; omega)]
    split
    · rename_i he; rw [if_neg (by rw [MB_len]; omega)]
    · rfl
theorem MB_other {k j n x : Nat} {M : Nat → Bool} (hk : k < 2) (hj : j < 2) (h : k ≠ j) : MB k n (mrk (2 * x + j) M) = MB k n M := by
  unfold MB
  apply List.map_congr_left
  intro i _
  have : (2 * i + k == 2 * x + j) = false := by rw [beq_eq_false_iff_ne]; omega
  simp [mrk, this]
theorem MB_one (k n : Nat) (M : Nat → Bool) : (MB k n M).all oneC = true := by
  rw [List.all_eq_true]
  intro v hv
  obtain ⟨x, _, rfl⟩ := List.mem_map.1 hv
  rfl
def NI (l : List Nat) : List Value := l.map fun (i : Nat) => .int .i64 (i : Int)
def But2 (H : Heap) (x y : Nat) : Nat → Prop := fun b => b < H.n ∧ b ≠ x ∧ b ≠ y
theorem but2_up {H H' : Heap} {x y : Nat} (hk : H.n ≤ H'.n) : ∀ q, But2 H x y q → But2 H' x y q := fun q h => ⟨Nat.lt_of_lt_of_le h.1 hk, h.2⟩
theorem all_but2 (H : Heap) (x y : Nat) : ∀ q, But2 H x y q → all H q := fun q h => h.1
structure WK (H : Heap) (w bI bO : Nat) (v vu : Value) (l : List Nd) (up : List Nat) (M : Nat → Bool) : Prop where
  hI : bI < H.n
  hO : bO < H.n
  ne : bI ≠ bO
  hw : But2 H bI bO w
  gw : H.get w = some ⟨[v, vu, .slice (some ⟨bI, 0, none⟩) l.length l.length, .slice (some ⟨bO, 0, none⟩) l.length l.length], 1, true⟩
  gI : H.get bI = some ⟨MB 0 l.length M, 1, true⟩
  gO : H.get bO = some ⟨MB 1 l.length M, 1, true⟩
  sl : Sl (But2 H bI bO) H 7 v l.length (NDS l)
  su : Sl (But2 H bI bO) H 1 vu l.length (NI up)
  nv : blkOf v ≠ some w
  nu : blkOf vu ≠ some w
theorem Sl.apart {R : Nat → Prop} {H : Heap} {sz n w : Nat} {v : Value} {cs : List Value} (h : Sl R H sz v n cs) (hw : blkOf v ≠ some w) : Sl (fun b => R b ∧ b ≠ w) H sz v n cs := by
  rcases h with h | ⟨b, o, sp, cap, rfl, h2, h3⟩ | ⟨b, o, sp, cap, blk, rfl, h2, h3⟩
  · exact .inl h
  · exact .inr (.inl ⟨b, o, sp, cap, rfl, ⟨h2, fun he => hw (by rw [he]; rfl)⟩, h3⟩)
  · exact .inr (.inr ⟨b, o, sp, cap, blk, rfl, ⟨h2, fun he => hw (by rw [he]; rfl)⟩, h3⟩)
theorem Sl.notBlk {R : Nat → Prop} {H : Heap} {sz n w : Nat} {v : Value} {cs : List Value} (h : Sl R H sz v n cs) (hw : ¬ R w) : blkOf v ≠ some w := by
  rcases h with ⟨rfl, _⟩ | ⟨b, o, sp, cap, rfl, h2, h3⟩ | ⟨b, o, sp, cap, blk, rfl, h2, h3⟩
  · simp [blkOf]
  · intro he; simp only [blkOf, Option.some.injEq] at he; subst he; exact hw h2
  · intro he; simp only [blkOf, Option.some.injEq] at he; subst he; exact hw h2
section
variable {H H' : Heap} {w bI bO : Nat} {v vu : Value} {l : List Nd} {up : List Nat} {M : Nat → Bool}
theorem WK.push (h : WK H w bI bO v vu l up M) (blk : Blk) : WK (H.push blk) w bI bO v vu l up M := by
  have k : Keep (all H) H (H.push blk) := push_keep
  exact ⟨Nat.lt_of_lt_of_le h.hI k.1, Nat.lt_of_lt_of_le h.hO k.1, h.ne, but2_up k.1 _ h.hw, (k.2 _ h.hw.1).trans h.gw, (k.2 _ h.hI).trans h.gI, (k.2 _ h.hO).trans h.gO,
    (h.sl.keep (k.mono (all_but2 _ _ _))).mono (but2_up k.1), (h.su.keep (k.mono (all_but2 _ _ _))).mono (but2_up k.1), h.nv, h.nu⟩
theorem WK.setI (h : WK H w bI bO v vu l up M) {x : Nat} (hx : x < l.length) : ∃ H', stV 1 (ptr bI x) (.bool true) H = some (undef, H') ∧ WK H' w bI bO v vu l up (mrk (2 * x) M) ∧ Keep (But2 H bI bO) H H' ∧ H'.n = H.n := by
  refine ⟨H.upd bI (some ⟨MB 0 l.length (mrk (2 * x) M), 1, true⟩), ?_, ?_, Keep.upd fun hb => hb.2.1 rfl, rfl⟩
  · rw [stV1_box h.gI (by rw [MB_len]; exact hx) rfl rfl, show (MB 0 l.length M).set x (.bool true) = MB 0 l.length (mrk (2 * x) M) from MB_set (k := 0) (by omega) hx]
  · have k : Keep (But2 H bI bO) H (H.upd bI (some ⟨MB 0 l.length (mrk (2 * x) M), 1, true⟩)) := Keep.upd fun hb => hb.2.1 rfl
    exact ⟨h.hI, h.hO, h.ne, h.hw, (k.2 _ h.hw).trans h.gw, upd_self, by rw [upd_ne (Ne.symm h.ne)]; exact h.gO.trans (by rw [show 2 * x = 2 * x + 0 from rfl, MB_other (by omega) (by omega) (by omega)]), h.sl.keep k, h.su.keep k, h.nv, h.nu⟩
theorem WK.setO (h : WK H w bI bO v vu l up M) {x : Nat} (hx : x < l.length) : ∃ H', stV 1 (ptr bO x) (.bool true) H = some (undef, H') ∧ WK H' w bI bO v vu l up (mrk (2 * x + 1) M) ∧ Keep (But2 H bI bO) H H' ∧ H'.n = H.n := by
  refine ⟨H.upd bO (some ⟨MB 1 l.length (mrk (2 * x + 1) M), 1, true⟩), ?_, ?_, Keep.upd fun hb => hb.2.2 rfl, rfl⟩
  · rw [stV1_box h.gO (by rw [MB_len]; exact hx) rfl rfl, MB_set (k := 1) (by omega) hx]
  · have k : Keep (But2 H bI bO) H (H.upd bO (some ⟨MB 1 l.length (mrk (2 * x + 1) M), 1, true⟩)) := Keep.upd fun hb => hb.2.2 rfl
    exact ⟨h.hI, h.hO, h.ne, h.hw, (k.2 _ h.hw).trans h.gw, by rw [upd_ne h.ne]; exact h.gI.trans (by rw [MB_other (by omega) (by omega) (by omega)]), upd_self, h.sl.keep k, h.su.keep k, h.nv, h.nu⟩
theorem iS {b n x : Nat} (h : x < n) : iAddrS 1 (.slice (some ⟨b, 0, none⟩) n n) (.int .i64 (x : Int)) = some (ptr b x) := by
  simp only [iAddrS]
  rw [if_pos ⟨by omega, by omega⟩]
  simp
theorem NI_at {up : List Nat} {x : Nat} (h : x < up.length) : (NI up)[x]? = some (.int .i64 ((up.getD x 0 : Nat) : Int)) := by
  simp [NI, List.getD_eq_getElem?_getD, h]
def OkW (l : List Nd) (up : List Nat) : Prop := l.length ≤ 1000000 ∧ up.length = l.length ∧
  (∀ (x : Nat) (n : Nd), l[x]? = some n → (n.kind = 3 ∨ n.kind = 4 → 0 ≤ n.a ∧ n.a.toNat < l.length ∧ 0 ≤ n.b ∧ n.b.toNat < l.length) ∧ (n.kind = 5 ∨ n.kind = 6 → 0 ≤ n.a ∧ n.a.toNat < l.length)) ∧
  ∀ x, x < l.length → x ≠ l.length - 1 → up.getD x 0 < l.length
theorem suc_lt (hO : OkW l up) : ∀ u, u < 2 * l.length → ∀ s ∈ suc l up u, s < 2 * l.length := by
  obtain ⟨_, _, h1, h2⟩ := hO
  intro u hu s hs
  unfold suc at hs
  split at hs
  · split at hs
    · simp at hs
    · rename_i n hn
      obtain ⟨g1, g2⟩ := h1 _ n hn
      repeat' split at hs
      all_goals simp only [List.mem_cons, List.not_mem_nil, or_false] at hs
      · omega
      · rename_i hk; have := g1 (.inl hk); omega
      · rename_i hk; have := g1 (.inr hk); omega
      · rename_i hk; have := g2 (.inl hk); omega
      · rename_i hk; have := g2 (.inr hk); omega
  · split at hs
    · simp at hs
    · rename_i hne
      have hup := h2 (u / 2) (by omega) hne
      split at hs
      · simp at hs
      · rename_i n hn
        obtain ⟨g1, g2⟩ := h1 _ n hn
        repeat' split at hs
        all_goals simp only [List.mem_cons, List.not_mem_nil, or_false] at hs
        · rename_i hk; have := g1 (.inl hk.1); omega
        · omega
        · omega
end
end Go.Eng

set_option linter.unusedVariables false
set_option linter.unusedSimpArgs false
set_option linter.unusedSectionVars false
set_option maxRecDepth 100000
namespace Go.Eng
open Go Go.Proofs
section
variable {w bI bO : Nat} {v vu : Value} {l : List Nd} {up : List Nat}
theorem dfs_pos {s : Nat → List Nat} {f u : Nat} {M : Nat → Bool} (h : M u = true) : dfsV s f u M = M := by
  cases f with
  | zero => rfl
  | succ f => rw [dfsV, if_pos h]
theorem dfs_neg {s : Nat → List Nat} {f u : Nat} {M : Nat → Bool} (h : M u = false) : dfsV s (f + 1) u M = (s u).foldl (fun M s' => dfsV s f s' M) (mrk u M) := by
  rw [dfsV, if_neg (by simp [h])]
theorem suc_even {x : Nat} {n : Nd} (h : l[x]? = some n) : suc l up (2 * x) = if n.kind = 1 then [2 * x + 1] else if n.kind = 3 then [2 * n.a.toNat] else if n.kind = 4 then [2 * n.a.toNat, 2 * n.b.toNat]
    else if n.kind = 5 then [2 * x + 1, 2 * n.a.toNat] else if n.kind = 6 then [2 * n.a.toNat] else [] := by
  unfold suc
  rw [if_pos (by omega), show 2 * x / 2 = x by omega, h]
theorem suc_odd {x p : Nat} {n : Nd} (hx : x ≠ l.length - 1) (hp : up.getD x 0 = p) (h : l[p]? = some n) : suc l up (2 * x + 1) = if n.kind = 3 ∧ (x : Int) = n.a then [2 * n.b.toNat]
    else if n.kind = 5 ∨ n.kind = 6 then [2 * x, 2 * p + 1] else [2 * p + 1] := by
  unfold suc
  rw [if_neg (by omega), show (2 * x + 1) / 2 = x by omega, if_neg hx, hp, h]
  rfl
theorem suc_end : suc l up (2 * (l.length - 1) + 1) = [] := by
  unfold suc
  rw [if_neg (by omega), show (2 * (l.length - 1) + 1) / 2 = l.length - 1 by omega, if_pos rfl]
theorem ld_w {H : Heap} {M : Nat → Bool} (h : WK H w bI bO v vu l up M) : ldC (ptr w 0) H = some (v, H) ∧ ldC (ptr w 1) H = some (vu, H) ∧ ldC (ptr w 2) H = some (.slice (some ⟨bI, 0, none⟩) l.length l.length, H) ∧ ldC (ptr w 3) H = some (.slice (some ⟨bO, 0, none⟩) l.length l.length, H) :=
  ⟨ldG h.gw rfl, ldG h.gw rfl, ldG h.gw rfl, ldG h.gw rfl⟩
theorem WK.node {H : Heap} {M : Nat → Bool} (h : WK H w bI bO v vu l up M) {x : Nat} {n : Nd} (hn : l[x]? = some n) :
    ∃ a H', iAddrS 7 v (.int .i64 (x : Int)) = some a ∧ ldA 7 a H = some (.agg (ND n).toArray, H) ∧ newV zND H = some (ptr H.n 0, H.push ⟨zND, 1, true⟩) ∧ stV 7 (ptr H.n 0) (.agg (ND n).toArray) (H.push ⟨zND, 1, true⟩) = some (undef, H') ∧
      WK H' w bI bO v vu l up M ∧ Keep (all H) H H' ∧ H'.get H.n = some ⟨ND n, 1, true⟩ ∧ But2 H' bI bO H.n := by
  obtain ⟨a, q1, q2, q3, q4⟩ := node_at h.sl hn
  have := h.hI
  have := h.hO
  exact ⟨a, H.push ⟨ND n, 1, true⟩, q1, q2, q3, q4, h.push _, push_keep, push_self, by simp [push_n], by omega, by omega⟩
theorem walk_ok (hO : OkW l up) : ∀ f,
    (∀ (x : Nat) (H : Heap) (M : Nat → Bool), x < l.length → cnt M (2 * l.length) ≤ f → WK H w bI bO v vu l up M → ∃ H', ClX 42 [ptr w 0, .int .i64 (x : Int)] H (.tuple #[]) H' ∧ WK H' w bI bO v vu l up (dfsV (suc l up) f (2 * x) M) ∧ Keep (But2 H bI bO) H H') ∧
    (∀ (x : Nat) (H : Heap) (M : Nat → Bool), x < l.length → cnt M (2 * l.length) ≤ f → WK H w bI bO v vu l up M → ∃ H', ClX 58 [ptr w 0, .int .i64 (x : Int)] H (.tuple #[]) H' ∧ WK H' w bI bO v vu l up (dfsV (suc l up) f (2 * x + 1) M) ∧ Keep (But2 H bI bO) H H') := by
  obtain ⟨hlen, hul, hin, hup⟩ := hO
  have doneB : ∀ (f x : Nat) (H : Heap) (M : Nat → Bool), x < l.length → M (2 * x) = true → WK H w bI bO v vu l up M → ∃ H', ClX 42 [ptr w 0, .int .i64 (x : Int)] H (.tuple #[]) H' ∧ WK H' w bI bO v vu l up (dfsV (suc l up) f (2 * x) M) ∧ Keep (But2 H bI bO) H H' := fun f x H M hx hm h => by
    obtain ⟨_, _, l2, _⟩ := ld_w h
    rw [dfs_pos hm]
    refine ⟨H, Ev.enter (fun n => f42_eq rfl n _ _ _) ?_, h, Keep.refl _ _⟩
    have e : ldC (ptr bI x) H = some (.bool true, H) := ldG h.gI (by rw [MB_at hx]; simp [hm])
    simp only [f42, ruA, ruB, ruC, ruE, ruD, lenStr, Int.reduceBEq, Int.reduceBNe, l2, iS hx, e]
    exact Ev.pure _
  have doneE : ∀ (f x : Nat) (H : Heap) (M : Nat → Bool), x < l.length → M (2 * x + 1) = true → WK H w bI bO v vu l up M → ∃ H', ClX 58 [ptr w 0, .int .i64 (x : Int)] H (.tuple #[]) H' ∧ WK H' w bI bO v vu l up (dfsV (suc l up) f (2 * x + 1) M) ∧ Keep (But2 H bI bO) H H' := fun f x H M hx hm h => by
    obtain ⟨_, _, _, l3⟩ := ld_w h
    rw [dfs_pos hm]
    refine ⟨H, Ev.enter (fun n => f58_eq rfl n _ _ _) ?_, h, Keep.refl _ _⟩
    have e : ldC (ptr bO x) H = some (.bool true, H) := ldG h.gO (by rw [MB_at hx, hm])
    simp only [f58, ruA, ruB, ruC, ruE, ruD, lenStr, Int.reduceBEq, Int.reduceBNe, l3, iS hx, e]
    exact Ev.pure _
  intro f
  induction f with
  | zero => exact ⟨fun x H M hx hc h => doneB 0 x H M hx (cnt_zero (N := 2 * l.length) (by omega) (by omega)) h, fun x H M hx hc h => doneE 0 x H M hx (cnt_zero (N := 2 * l.length) (by omega) (by omega)) h⟩
  | succ f ih =>
    obtain ⟨ihB, ihE⟩ := ih
    constructor
    · intro x H M hx hc h
      by_cases hm : M (2 * x) = true
      · exact doneB (f + 1) x H M hx hm h
      have hm' : M (2 * x) = false := by simpa using hm
      rw [dfs_neg hm']
      obtain ⟨nd, hnd⟩ : ∃ nd, l[x]? = some nd := ⟨l[x], List.getElem?_eq_getElem hx⟩
      obtain ⟨i34, i56⟩ := hin x nd hnd
      obtain ⟨_, _, l2, _⟩ := ld_w h
      have e : ldC (ptr bI x) H = some (.bool false, H) := ldG h.gI (by rw [MB_at hx]; simp [hm'])
      obtain ⟨H1, t1, h1, k1, n1⟩ := h.setI hx
      obtain ⟨l0, _, _, _⟩ := ld_w h1
      obtain ⟨ad, H2, q1, q2, q3, q4, h2, k2', g2, b2⟩ := h1.node hnd
      have k2 : Keep (But2 H bI bO) H H2 := k1.trans (k2'.mono fun b hb => by have := hb.1; show b < H1.n; omega)
      have hc1 : cnt (mrk (2 * x) M) (2 * l.length) ≤ f := by have := cnt_mrk hm' (N := 2 * l.length) (by omega); omega
      rw [suc_even hnd]
      by_cases hk : nd.kind = 1
      · rw [if_pos hk]
        obtain ⟨H3, c3, h3, k3⟩ := ihE x H2 _ hx hc1 h2
        refine ⟨H3, Ev.enter (fun n => f42_eq rfl n _ _ _) ?_, h3, k2.trans (k3.mono (but2_up k2.1))⟩
        simp only [f42, ruA, ruB, ruC, ruE, ruD, lenStr, Int.reduceBEq, Int.reduceBNe, l2, iS hx, e, t1, l0, q1, q2, show newV [(.int .i64 0), (.int .u64 0), (.int .u64 0), (.int .u64 0), (.int .u64 0), (.int .i64 0), (.int .i64 0)] _ = _ from q3, q4, nd0 g2, hk]
        exact Ev.callC c3 (Ev.pure _)
      rw [if_neg hk]
      have k1f := decide_eq_false hk
      by_cases hk : nd.kind = 3
      · rw [if_pos hk]
        obtain ⟨ga, gA, _, _⟩ := i34 (.inl hk)
        obtain ⟨A, hA⟩ : ∃ A : Nat, nd.a = (A : Int) := ⟨nd.a.toNat, by omega⟩
        have hAl : A < l.length := by rw [hA] at gA; simpa using gA
        rw [show 2 * nd.a.toNat = 2 * A by rw [hA]; simp]
        have z5 := nd5 g2
        rw [hA] at z5
        obtain ⟨H3, c3, h3, k3⟩ := ihB A H2 _ hAl hc1 h2
        refine ⟨H3, Ev.enter (fun n => f42_eq rfl n _ _ _) ?_, h3, k2.trans (k3.mono (but2_up k2.1))⟩
        simp only [f42, ruA, ruB, ruC, ruE, ruD, lenStr, Int.reduceBEq, Int.reduceBNe, l2, iS hx, e, t1, l0, q1, q2, show newV [(.int .i64 0), (.int .u64 0), (.int .u64 0), (.int .u64 0), (.int .u64 0), (.int .i64 0), (.int .i64 0)] _ = _ from q3, q4, nd0 g2, hk]
        simp only [ruA, ruB, ruC, ruE, ruD, lenStr, Int.reduceBEq, Int.reduceBNe, z5]
        exact Ev.callC c3 (Ev.pure _)
      rw [if_neg hk]
      have k3f := decide_eq_false hk
      by_cases hk : nd.kind = 4
      · rw [if_pos hk]
        obtain ⟨ga, gA, gb, gB⟩ := i34 (.inr hk)
        obtain ⟨A, hA⟩ : ∃ A : Nat, nd.a = (A : Int) := ⟨nd.a.toNat, by omega⟩
        have hAl : A < l.length := by rw [hA] at gA; simpa using gA
        obtain ⟨B, hB⟩ : ∃ B : Nat, nd.b = (B : Int) := ⟨nd.b.toNat, by omega⟩
        have hBl : B < l.length := by rw [hB] at gB; simpa using gB
        rw [show 2 * nd.a.toNat = 2 * A by rw [hA]; simp, show 2 * nd.b.toNat = 2 * B by rw [hB]; simp]
        have z5 := nd5 g2
        rw [hA] at z5
        obtain ⟨H3, c3, h3, k3⟩ := ihB A H2 _ hAl hc1 h2
        have g3 := (k3.2 _ b2).trans g2
        have z6 := nd6 g3
        rw [hB] at z6
        obtain ⟨H4, c4, h4, k4⟩ := ihB B H3 _ hBl (Nat.le_trans (cnt_le (dfsV_up _ f _ _) _) hc1) h3
        have k13 := k2.trans (k3.mono (but2_up k2.1))
        refine ⟨H4, Ev.enter (fun n => f42_eq rfl n _ _ _) ?_, h4, k13.trans (k4.mono (but2_up k13.1))⟩
        simp only [f42, ruA, ruB, ruC, ruE, ruD, lenStr, Int.reduceBEq, Int.reduceBNe, l2, iS hx, e, t1, l0, q1, q2, show newV [(.int .i64 0), (.int .u64 0), (.int .u64 0), (.int .u64 0), (.int .u64 0), (.int .i64 0), (.int .i64 0)] _ = _ from q3, q4, nd0 g2, hk]
        simp only [ruA, ruB, ruC, ruE, ruD, lenStr, Int.reduceBEq, Int.reduceBNe, z5]
        refine Ev.callC c3 ?_
        simp only [ruA, ruB, ruC, ruE, ruD, lenStr, Int.reduceBEq, Int.reduceBNe, z6]
        exact Ev.callC c4 (Ev.pure _)
      rw [if_neg hk]
      have k4f := decide_eq_false hk
      by_cases hk : nd.kind = 5
      · rw [if_pos hk]
        obtain ⟨ga, gA⟩ := i56 (.inl hk)
        obtain ⟨A, hA⟩ : ∃ A : Nat, nd.a = (A : Int) := ⟨nd.a.toNat, by omega⟩
        have hAl : A < l.length := by rw [hA] at gA; simpa using gA
        rw [show 2 * nd.a.toNat = 2 * A by rw [hA]; simp]
        obtain ⟨H3, c3, h3, k3⟩ := ihE x H2 _ hx hc1 h2
        have g3 := (k3.2 _ b2).trans g2
        have z5 := nd5 g3
        rw [hA] at z5
        obtain ⟨H4, c4, h4, k4⟩ := ihB A H3 _ hAl (Nat.le_trans (cnt_le (dfsV_up _ f _ _) _) hc1) h3
        have k13 := k2.trans (k3.mono (but2_up k2.1))
        refine ⟨H4, Ev.enter (fun n => f42_eq rfl n _ _ _) ?_, h4, k13.trans (k4.mono (but2_up k13.1))⟩
        simp only [f42, ruA, ruB, ruC, ruE, ruD, lenStr, Int.reduceBEq, Int.reduceBNe, l2, iS hx, e, t1, l0, q1, q2, show newV [(.int .i64 0), (.int .u64 0), (.int .u64 0), (.int .u64 0), (.int .u64 0), (.int .i64 0), (.int .i64 0)] _ = _ from q3, q4, nd0 g2, hk]
        refine Ev.callC c3 ?_
        simp only [ruA, ruB, ruC, ruE, ruD, lenStr, Int.reduceBEq, Int.reduceBNe, z5]
        exact Ev.callC c4 (Ev.pure _)
      rw [if_neg hk]
      have k5f := decide_eq_false hk
      by_cases hk : nd.kind = 6
      · rw [if_pos hk]
        obtain ⟨ga, gA⟩ := i56 (.inr hk)
        obtain ⟨A, hA⟩ : ∃ A : Nat, nd.a = (A : Int) := ⟨nd.a.toNat, by omega⟩
        have hAl : A < l.length := by rw [hA] at gA; simpa using gA
        rw [show 2 * nd.a.toNat = 2 * A by rw [hA]; simp]
        have z5 := nd5 g2
        rw [hA] at z5
        obtain ⟨H3, c3, h3, k3⟩ := ihB A H2 _ hAl hc1 h2
        refine ⟨H3, Ev.enter (fun n => f42_eq rfl n _ _ _) ?_, h3, k2.trans (k3.mono (but2_up k2.1))⟩
        simp only [f42, ruA, ruB, ruC, ruE, ruD, lenStr, Int.reduceBEq, Int.reduceBNe, l2, iS hx, e, t1, l0, q1, q2, show newV [(.int .i64 0), (.int .u64 0), (.int .u64 0), (.int .u64 0), (.int .u64 0), (.int .i64 0), (.int .i64 0)] _ = _ from q3, q4, nd0 g2, hk]
        simp only [ruA, ruB, ruC, ruE, ruD, lenStr, Int.reduceBEq, Int.reduceBNe, z5]
        exact Ev.callC c3 (Ev.pure _)
      rw [if_neg hk]
      have k6f := decide_eq_false hk
      refine ⟨H2, Ev.enter (fun n => f42_eq rfl n _ _ _) ?_, h2, k2⟩
      simp only [f42, ruA, ruB, ruC, ruE, ruD, lenStr, Int.reduceBEq, Int.reduceBNe, l2, iS hx, e, t1, l0, q1, q2, show newV [(.int .i64 0), (.int .u64 0), (.int .u64 0), (.int .u64 0), (.int .u64 0), (.int .i64 0), (.int .i64 0)] _ = _ from q3, q4, nd0 g2, i_eq, k1f, k3f, k4f, k5f, k6f]
      exact Ev.pure _
    · intro x H M hx hc h
      by_cases hm : M (2 * x + 1) = true
      · exact doneE (f + 1) x H M hx hm h
      have hm' : M (2 * x + 1) = false := by simpa using hm
      rw [dfs_neg hm']
      obtain ⟨_, _, _, l3⟩ := ld_w h
      have e : ldC (ptr bO x) H = some (.bool false, H) := ldG h.gO (by rw [MB_at hx, hm'])
      obtain ⟨H1, t1, h1, k1, n1⟩ := h.setO hx
      obtain ⟨l0, l1, _, _⟩ := ld_w h1
      have hc1 : cnt (mrk (2 * x + 1) M) (2 * l.length) ≤ f := by have := cnt_mrk hm' (N := 2 * l.length) (by omega); omega
      have w1 : IntKind.i64.wrap ((l.length : Int) - 1) = ((l.length - 1 : Nat) : Int) := by rw [wrap_i64 (by omega) (by omega)]; omega
      by_cases hend : x = l.length - 1
      · rw [hend, suc_end, ← hend]
        refine ⟨H1, Ev.enter (fun n => f58_eq rfl n _ _ _) ?_, h1, k1⟩
        simp only [f58, ruA, ruB, ruC, ruE, ruD, lenStr, Int.reduceBEq, Int.reduceBNe, l3, iS hx, e, t1, l0, h1.sl.lenS, w1, k_eq', decide_eq_true hend]
        exact Ev.pure _
      obtain ⟨p, hp⟩ : ∃ p, up.getD x 0 = p := ⟨_, rfl⟩
      have hpl : p < l.length := by rw [← hp]; exact hup x hx hend
      obtain ⟨au, a1, a2⟩ := h1.su.at1 (NI_at (up := up) (x := x) (by omega))
      rw [hp] at a2
      obtain ⟨nd, hnd⟩ : ∃ nd, l[p]? = some nd := ⟨l[p], List.getElem?_eq_getElem hpl⟩
      obtain ⟨i34, i56⟩ := hin p nd hnd
      obtain ⟨ad, H2, q1, q2, q3, q4, h2, k2', g2, b2⟩ := h1.node hnd
      have k2 : Keep (But2 H bI bO) H H2 := k1.trans (k2'.mono fun b hb => by have := hb.1; show b < H1.n; omega)
      rw [suc_odd hend hp hnd]
      have last : ∀ (M' : Nat → Bool) (H3 : Heap), cnt M' (2 * l.length) ≤ f → WK H3 w bI bO v vu l up M' → ∃ H', Ev (fun n m => f58_J1 real (AX n) n (ptr w 0) (.int .i64 (p : Int)) H3) (.tuple #[], H') ∧ WK H' w bI bO v vu l up (dfsV (suc l up) f (2 * p + 1) M') ∧ Keep (But2 H3 bI bO) H3 H' := fun M' H3 hc3 h3 => by
        obtain ⟨H4, c4, h4, k4⟩ := ihE p H3 M' hpl hc3 h3
        refine ⟨H4, ?_, h4, k4⟩
        simp only [f58_J1, ruA]
        exact Ev.callC c4 (Ev.pure _)
      by_cases hk : nd.kind = 3
      · obtain ⟨ga, gA, gb, gB⟩ := i34 (.inl hk)
        obtain ⟨A, hA⟩ : ∃ A : Nat, nd.a = (A : Int) := ⟨nd.a.toNat, by omega⟩
        obtain ⟨B, hB⟩ : ∃ B : Nat, nd.b = (B : Int) := ⟨nd.b.toNat, by omega⟩
        have hBl : B < l.length := by rw [hB] at gB; simpa using gB
        have z5 := nd5 g2
        have z6 := nd6 g2
        rw [hA] at z5
        rw [hB] at z6
        by_cases hxA : (x : Int) = (A : Int)
        · rw [if_pos ⟨hk, by rw [hA]; exact hxA⟩, show 2 * nd.b.toNat = 2 * B by rw [hB]; simp]
          obtain ⟨H3, c3, h3, k3⟩ := ihB B H2 _ hBl hc1 h2
          refine ⟨H3, Ev.enter (fun n => f58_eq rfl n _ _ _) ?_, h3, k2.trans (k3.mono (but2_up k2.1))⟩
          simp only [f58, ruA, ruB, ruC, ruE, ruD, lenStr, Int.reduceBEq, Int.reduceBNe, l3, iS hx, e, t1, l0, l1, h1.sl.lenS, w1, k_eq', decide_eq_false hend, a1, a2, q1, q2, show newV [(.int .i64 0), (.int .u64 0), (.int .u64 0), (.int .u64 0), (.int .u64 0), (.int .i64 0), (.int .i64 0)] _ = _ from q3, q4, nd0 g2, hk, z5, z6]
          rw [← k_eq', show ((x : Int) == (A : Int)) = true by rw [hxA]; simp]
          simp only [ruA, ruB, ruC, ruE, ruD, lenStr, Int.reduceBEq, Int.reduceBNe, z6]
          exact Ev.callC c3 (Ev.pure _)
        · rw [if_neg fun hh => hxA (by rw [hh.2, hA]), if_neg (by rw [hk]; decide)]
          obtain ⟨H3, c3, h3, k3⟩ := last _ H2 hc1 h2
          refine ⟨H3, Ev.enter (fun n => f58_eq rfl n _ _ _) ?_, h3, k2.trans (k3.mono (but2_up k2.1))⟩
          simp only [f58, ruA, ruB, ruC, ruE, ruD, lenStr, Int.reduceBEq, Int.reduceBNe, l3, iS hx, e, t1, l0, l1, h1.sl.lenS, w1, k_eq', decide_eq_false hend, a1, a2, q1, q2, show newV [(.int .i64 0), (.int .u64 0), (.int .u64 0), (.int .u64 0), (.int .u64 0), (.int .i64 0), (.int .i64 0)] _ = _ from q3, q4, nd0 g2, hk, z5, z6]
          rw [← k_eq', show ((x : Int) == (A : Int)) = false by simpa using hxA]
          simp only [ruA, ruB, ruC, ruE, ruD, lenStr, Int.reduceBEq, Int.reduceBNe, nd0 g2, hk]
          exact c3
      rw [if_neg fun hh => hk hh.1]
      have k3f := decide_eq_false hk
      by_cases hk56 : nd.kind = 5 ∨ nd.kind = 6
      · rw [if_pos hk56]
        obtain ⟨H3, c3, h3, k3⟩ := ihB x H2 _ hx hc1 h2
        have k13 := k2.trans (k3.mono (but2_up k2.1))
        obtain ⟨H4, c4, h4, k4⟩ := last _ H3 (Nat.le_trans (cnt_le (dfsV_up _ f _ _) _) hc1) h3
        refine ⟨H4, Ev.enter (fun n => f58_eq rfl n _ _ _) ?_, h4, k13.trans (k4.mono (but2_up k13.1))⟩
        rcases hk56 with hk | hk
        · simp only [f58, ruA, ruB, ruC, ruE, ruD, lenStr, Int.reduceBEq, Int.reduceBNe, l3, iS hx, e, t1, l0, l1, h1.sl.lenS, w1, k_eq', decide_eq_false hend, a1, a2, q1, q2, show newV [(.int .i64 0), (.int .u64 0), (.int .u64 0), (.int .u64 0), (.int .u64 0), (.int .i64 0), (.int .i64 0)] _ = _ from q3, q4, nd0 g2, hk]
          exact Ev.callC c3 c4
        · simp only [f58, ruA, ruB, ruC, ruE, ruD, lenStr, Int.reduceBEq, Int.reduceBNe, l3, iS hx, e, t1, l0, l1, h1.sl.lenS, w1, k_eq', decide_eq_false hend, a1, a2, q1, q2, show newV [(.int .i64 0), (.int .u64 0), (.int .u64 0), (.int .u64 0), (.int .u64 0), (.int .i64 0), (.int .i64 0)] _ = _ from q3, q4, nd0 g2, hk]
          exact Ev.callC c3 c4
      rw [if_neg hk56]
      have k5f := decide_eq_false fun hh : nd.kind = 5 => hk56 (.inl hh)
      have k6f := decide_eq_false fun hh : nd.kind = 6 => hk56 (.inr hh)
      obtain ⟨H3, c3, h3, k3⟩ := last _ H2 hc1 h2
      refine ⟨H3, Ev.enter (fun n => f58_eq rfl n _ _ _) ?_, h3, k2.trans (k3.mono (but2_up k2.1))⟩
      simp only [f58, ruA, ruB, ruC, ruE, ruD, lenStr, Int.reduceBEq, Int.reduceBNe, l3, iS hx, e, t1, l0, l1, h1.sl.lenS, w1, decide_eq_false (show ¬ ((x : Int) = ((l.length - 1 : Nat) : Int)) by omega), a1, a2, q1, q2, show newV [(.int .i64 0), (.int .u64 0), (.int .u64 0), (.int .u64 0), (.int .u64 0), (.int .i64 0), (.int .i64 0)] _ = _ from q3, q4, nd0 g2, i_eq, k3f, k5f, k6f]
      exact c3
end
end Go.Eng

set_option linter.unusedVariables false
set_option linter.unusedSimpArgs false
set_option linter.unusedSectionVars false
set_option maxRecDepth 100000
namespace Go.Eng
open Go Go.Proofs

theorem NI_one (xs : List Nat) : (NI xs).all oneC = true := by
  rw [List.all_eq_true]
  intro v hv
  simp only [NI, List.mem_map] at hv
  obtain ⟨_, _, rfl⟩ := hv
  rfl
theorem rep_NI : ∀ n, rep n [.int .i64 0] = NI (List.replicate n 0)
  | 0 => rfl
  | n + 1 => by
    simp only [rep, List.replicate_succ, rep_NI n]
    rfl
theorem mkI_ok {N : Nat} (h : N ≤ 1000000000000) {H : Heap} : mkS 1 8 [.int .i64 0] (.int .i64 (N : Int)) (.int .i64 (N : Int)) H = some (.slice (some ⟨H.n, 0, none⟩) N N, H.push ⟨NI (List.replicate N 0), 1, true⟩) := by
  have hm : mostBytes = 140737488355328 := rfl
  simp only [mkS]
  rw [if_pos ⟨by omega, by omega, by omega, rfl, by omega, by omega⟩, rep_NI]
  simp only [newS, Int.toNat_natCast, NI_one, if_true]
theorem MB_none (k n : Nat) : MB k n none2 = List.replicate n (.bool false) := by
  unfold MB none2
  rw [List.map_const']
  simp
theorem rep_MB (k : Nat) : ∀ n, rep n [.bool false] = MB k n none2
  | 0 => rfl
  | n + 1 => by
    rw [MB_none, List.replicate_succ, ← MB_none k, ← rep_MB k n]
    rfl
theorem mkB_ok (k : Nat) {N : Nat} (h : N ≤ 1000000000000) {H : Heap} : mkS 1 1 [.bool false] (.int .i64 (N : Int)) (.int .i64 (N : Int)) H = some (.slice (some ⟨H.n, 0, none⟩) N N, H.push ⟨MB k N none2, 1, true⟩) := by
  have hm : mostBytes = 140737488355328 := rfl
  simp only [mkS]
  rw [if_pos ⟨by omega, by omega, by omega, rfl, by omega, by omega⟩, rep_MB k]
  simp only [newS, Int.toNat_natCast, MB_one, if_true]
theorem NI_set {xs : List Nat} {k v : Nat} : (NI xs).set k (.int .i64 (v : Int)) = NI (xs.set k v) := by simp [NI, List.map_set]
def upS (l : List Nd) (u : List Nat) (i : Nat) : List Nat := match l[i]? with
  | none => u
  | some n => if n.kind = 3 ∨ n.kind = 4 then (u.set n.b.toNat i).set n.a.toNat i else if n.kind = 5 ∨ n.kind = 6 then u.set n.a.toNat i else u
def upN (l : List Nd) : List Nat := (List.range l.length).foldl (upS l) (List.replicate l.length 0)
theorem upS_len (l : List Nd) (u : List Nat) (i : Nat) : (upS l u i).length = u.length := by
  unfold upS; repeat' split
  all_goals simp
theorem upF_len (l : List Nd) : ∀ (r : List Nat) (u : List Nat), (r.foldl (upS l) u).length = u.length
  | [], u => rfl
  | i :: r, u => by rw [List.foldl_cons, upF_len l r, upS_len]
theorem upN_len (l : List Nd) : (upN l).length = l.length := by unfold upN; rw [upF_len]; simp
structure WN (H0 H : Heap) (w bU bI bO : Nat) (v : Value) (n : Nat) (u : List Nat) : Prop where
  k0 : Keep (all H0) H0 H
  hw : w < H.n
  hU : bU < H.n
  hI : bI < H.n
  hO : bO < H.n
  lw : H0.n ≤ w
  lU : H0.n ≤ bU
  lI : H0.n ≤ bI
  lO : H0.n ≤ bO
  d1 : bU ≠ bI
  d2 : bU ≠ bO
  d3 : bI ≠ bO
  d4 : w ≠ bU
  d5 : w ≠ bI
  d6 : w ≠ bO
  gw : H.get w = some ⟨[v, .slice (some ⟨bU, 0, none⟩) n n, .slice (some ⟨bI, 0, none⟩) n n, .slice (some ⟨bO, 0, none⟩) n n], 1, true⟩
  gU : H.get bU = some ⟨NI u, 1, true⟩
  gI : H.get bI = some ⟨MB 0 n none2, 1, true⟩
  gO : H.get bO = some ⟨MB 1 n none2, 1, true⟩
section
variable {H0 H H' : Heap} {w bU bI bO : Nat} {v vu : Value} {l : List Nd} {up u : List Nat} {M : Nat → Bool} {n : Nat}
theorem WN.push (h : WN H0 H w bU bI bO v n u) (blk : Blk) : WN H0 (H.push blk) w bU bI bO v n u := by
  have k : Keep (all H) H (H.push blk) := push_keep
  have hn : ∀ b, b < H.n → b < (H.push blk).n := fun b hb => Nat.lt_of_lt_of_le hb k.1
  exact ⟨h.k0.trans (k.mono (upA h.k0)), hn _ h.hw, hn _ h.hU, hn _ h.hI, hn _ h.hO, h.lw, h.lU, h.lI, h.lO, h.d1, h.d2, h.d3, h.d4, h.d5, h.d6, (k.2 _ h.hw).trans h.gw, (k.2 _ h.hU).trans h.gU, (k.2 _ h.hI).trans h.gI, (k.2 _ h.hO).trans h.gO⟩
theorem WN.set (h : WN H0 H w bU bI bO v n u) {k i : Nat} (hk : k < u.length) : ∃ H', stV 1 (ptr bU k) (.int .i64 (i : Int)) H = some (undef, H') ∧ WN H0 H' w bU bI bO v n (u.set k i) ∧ H'.n = H.n ∧ ∀ b, b ≠ bU → H'.get b = H.get b := by
  refine ⟨H.upd bU (some ⟨NI (u.set k i), 1, true⟩), ?_, ?_, rfl, fun b hb => upd_ne hb⟩
  · rw [stV1_box h.gU (by simpa [NI] using hk) rfl rfl, NI_set]
  · have hl := h.lU
    exact ⟨h.k0.trans (Keep.upd fun hb => by have : bU < H0.n := hb; omega), h.hw, h.hU, h.hI, h.hO, h.lw, h.lU, h.lI, h.lO, h.d1, h.d2, h.d3, h.d4, h.d5, h.d6, (upd_ne h.d4).trans h.gw, upd_self, (upd_ne (Ne.symm h.d1)).trans h.gI, (upd_ne (Ne.symm h.d2)).trans h.gO⟩
theorem new_loop (hs : Sl (all H0) H0 7 v l.length (NDS l)) (hl : l.length ≤ 1000000)
    (hin : ∀ (x : Nat) (n : Nd), l[x]? = some n → (n.kind = 3 ∨ n.kind = 4 → 0 ≤ n.a ∧ n.a.toNat < l.length ∧ 0 ≤ n.b ∧ n.b.toNat < l.length) ∧ (n.kind = 5 ∨ n.kind = 6 → 0 ≤ n.a ∧ n.a.toNat < l.length)) :
    ∀ (k i : Nat) (H : Heap) (u : List Nat), i + k = l.length → u.length = l.length → WN H0 H w bU bI bO v l.length u →
    ∃ H', Ev (fun n m => f41_L0 real (AX n) n m (ptr w 0) v (.int .i64 (l.length : Int)) (.int .i64 (i : Int)) H) (ptr w 0, H') ∧ WN H0 H' w bU bI bO v l.length ((List.range' i k).foldl (upS l) u) := by
  intro k
  induction k with
  | zero =>
    intro i H u hi hu h
    obtain rfl : i = l.length := by omega
    refine ⟨H, Ev.step (fun n m => f41_L0.eq_2 _ _ _ _ _ _ _ _ m) ?_, h⟩
    have e : ((l.length : Int) < (l.length : Int)) = False := by simp
    simp only [ruA, ruB, ruC, ruE, ruD, lenStr, Int.reduceBEq, Int.reduceBNe, e]
    exact Ev.pure _
  | succ k ih =>
    intro i H u hi hu h
    obtain ⟨nd, hnd⟩ : ∃ nd, l[i]? = some nd := ⟨l[i], List.getElem?_eq_getElem (by omega)⟩
    obtain ⟨i34, i56⟩ := hin i nd hnd
    obtain ⟨ad, q1, q2, q3, q4⟩ := node_at (hs.keep h.k0) hnd
    obtain ⟨H1, hH1⟩ : ∃ H1, H.push ⟨ND nd, 1, true⟩ = H1 := ⟨_, rfl⟩
    rw [hH1] at q4
    have h1 : WN H0 H1 w bU bI bO v l.length u := by rw [← hH1]; exact h.push _
    have g1 : H1.get H.n = some ⟨ND nd, 1, true⟩ := by rw [← hH1]; exact push_self
    have hne : H.n ≠ bU := by have := h.hU; omega
    have e : ((i : Int) < (l.length : Int)) = True := eq_true (by omega)
    have lw1 : ldC (ptr w 1) H1 = some (.slice (some ⟨bU, 0, none⟩) l.length l.length, H1) := ldG h1.gw rfl
    rw [show List.range' i (k + 1) = i :: List.range' (i + 1) k from rfl, List.foldl_cons]
    have hup : upS l u i = if nd.kind = 3 ∨ nd.kind = 4 then (u.set nd.b.toNat i).set nd.a.toNat i else if nd.kind = 5 ∨ nd.kind = 6 then u.set nd.a.toNat i else u := by unfold upS; rw [hnd]
    have two : nd.kind = 3 ∨ nd.kind = 4 → ∀ t : Value, ∃ H', Ev (fun n m => f41_J4 real (AX n) n (f41_L0 real (AX n) n m) (ptr w 0) (.int .i64 (i : Int)) (ptr H.n 0) v (.int .i64 (l.length : Int)) (.int .i64 (i : Int)) t (.bool true) H1) (ptr w 0, H') ∧ WN H0 H' w bU bI bO v l.length ((List.range' (i + 1) k).foldl (upS l) (upS l u i)) := fun hk t => by
      rw [hup, if_pos hk]
      obtain ⟨ga, gA, gb, gB⟩ := i34 hk
      obtain ⟨A, hA⟩ : ∃ A : Nat, nd.a = (A : Int) := ⟨nd.a.toNat, by omega⟩
      obtain ⟨B, hB⟩ : ∃ B : Nat, nd.b = (B : Int) := ⟨nd.b.toNat, by omega⟩
      have hAl : A < l.length := by rw [hA] at gA; simpa using gA
      have hBl : B < l.length := by rw [hB] at gB; simpa using gB
      rw [show nd.a.toNat = A by rw [hA]; simp, show nd.b.toNat = B by rw [hB]; simp]
      obtain ⟨H2, t2, h2, n2, o2⟩ := h1.set (k := B) (i := i) (by omega)
      obtain ⟨H3, t3, h3, n3, o3⟩ := h2.set (k := A) (i := i) (by rw [List.length_set]; omega)
      obtain ⟨H', c, hf⟩ := ih (i + 1) H3 _ (by omega) (by rw [List.length_set, List.length_set]; exact hu) h3
      refine ⟨H', ?_, hf⟩
      have z6 := nd6 g1
      have z5 := nd5 ((o2 _ hne).trans g1)
      rw [hB] at z6
      rw [hA] at z5
      have lw2 : ldC (ptr w 1) H2 = some (.slice (some ⟨bU, 0, none⟩) l.length l.length, H2) := ldG h2.gw rfl
      simp only [f41_J4, f41_J2, f41_J1, ruA, ruB, ruC, ruE, ruD, lenStr, Int.reduceBEq, Int.reduceBNe, lw1, z6, iS hBl, t2, lw2, z5, iS hAl, t3, idx_up (show i < 9223372036854775807 by omega)]
      exact c
    have one : nd.kind = 5 ∨ nd.kind = 6 → ∀ t : Value, ∃ H', Ev (fun n m => f41_J2 real (AX n) n (f41_L0 real (AX n) n m) (ptr w 0) (.int .i64 (i : Int)) (ptr H.n 0) v (.int .i64 (l.length : Int)) (.int .i64 (i : Int)) H1) (ptr w 0, H') ∧ WN H0 H' w bU bI bO v l.length ((List.range' (i + 1) k).foldl (upS l) (upS l u i)) := fun hk t => by
      rw [hup, if_neg (by omega), if_pos hk]
      obtain ⟨ga, gA⟩ := i56 hk
      obtain ⟨A, hA⟩ : ∃ A : Nat, nd.a = (A : Int) := ⟨nd.a.toNat, by omega⟩
      have hAl : A < l.length := by rw [hA] at gA; simpa using gA
      rw [show nd.a.toNat = A by rw [hA]; simp]
      obtain ⟨H3, t3, h3, n3, o3⟩ := h1.set (k := A) (i := i) (by omega)
      obtain ⟨H', c, hf⟩ := ih (i + 1) H3 _ (by omega) (by rw [List.length_set]; exact hu) h3
      refine ⟨H', ?_, hf⟩
      have z5 := nd5 g1
      rw [hA] at z5
      simp only [f41_J2, f41_J1, ruA, ruB, ruC, ruE, ruD, lenStr, Int.reduceBEq, Int.reduceBNe, lw1, z5, iS hAl, t3, idx_up (show i < 9223372036854775807 by omega)]
      exact c
    by_cases h34 : nd.kind = 3 ∨ nd.kind = 4
    · obtain ⟨H', c, hf⟩ := two h34 (.int .i64 nd.kind)
      refine ⟨H', Ev.step (fun n m => f41_L0.eq_2 _ _ _ _ _ _ _ _ m) ?_, hf⟩
      rcases h34 with hk | hk
      · rw [hk] at c
        simp only [ruA, ruB, ruC, ruE, ruD, lenStr, Int.reduceBEq, Int.reduceBNe, e, q1, q2, show newV [(.int .i64 0), (.int .u64 0), (.int .u64 0), (.int .u64 0), (.int .u64 0), (.int .i64 0), (.int .i64 0)] _ = _ from q3, q4, nd0 g1, hk]
        exact c
      · rw [hk] at c
        simp only [ruA, ruB, ruC, ruE, ruD, lenStr, Int.reduceBEq, Int.reduceBNe, e, q1, q2, show newV [(.int .i64 0), (.int .u64 0), (.int .u64 0), (.int .u64 0), (.int .u64 0), (.int .i64 0), (.int .i64 0)] _ = _ from q3, q4, nd0 g1, hk]
        exact c
    by_cases h56 : nd.kind = 5 ∨ nd.kind = 6
    · obtain ⟨H', c, hf⟩ := one h56 (.int .i64 nd.kind)
      refine ⟨H', Ev.step (fun n m => f41_L0.eq_2 _ _ _ _ _ _ _ _ m) ?_, hf⟩
      rcases h56 with hk | hk
      · simp only [ruA, ruB, ruC, ruE, ruD, lenStr, Int.reduceBEq, Int.reduceBNe, e, q1, q2, show newV [(.int .i64 0), (.int .u64 0), (.int .u64 0), (.int .u64 0), (.int .u64 0), (.int .i64 0), (.int .i64 0)] _ = _ from q3, q4, nd0 g1, hk, f41_J4, f41_J3]
        exact c
      · simp only [ruA, ruB, ruC, ruE, ruD, lenStr, Int.reduceBEq, Int.reduceBNe, e, q1, q2, show newV [(.int .i64 0), (.int .u64 0), (.int .u64 0), (.int .u64 0), (.int .u64 0), (.int .i64 0), (.int .i64 0)] _ = _ from q3, q4, nd0 g1, hk, f41_J4, f41_J3]
        exact c
    rw [hup, if_neg h34, if_neg h56]
    obtain ⟨H', c, hf⟩ := ih (i + 1) H1 u (by omega) hu h1
    refine ⟨H', Ev.step (fun n m => f41_L0.eq_2 _ _ _ _ _ _ _ _ m) ?_, hf⟩
    have k3 := decide_eq_false fun hh : nd.kind = 3 => h34 (.inl hh)
    have k4 := decide_eq_false fun hh : nd.kind = 4 => h34 (.inr hh)
    have k5 := decide_eq_false fun hh : nd.kind = 5 => h56 (.inl hh)
    have k6 := decide_eq_false fun hh : nd.kind = 6 => h56 (.inr hh)
    simp only [ruA, ruB, ruC, ruE, ruD, lenStr, Int.reduceBEq, Int.reduceBNe, e, q1, q2, show newV [(.int .i64 0), (.int .u64 0), (.int .u64 0), (.int .u64 0), (.int .u64 0), (.int .i64 0), (.int .i64 0)] _ = _ from q3, q4, nd0 g1, i_eq, k3, k4, k5, k6, f41_J4, f41_J3, f41_J1, idx_up (show i < 9223372036854775807 by omega)]
    exact c
theorem bldW {H : Heap} {a b c d : Value} (h : [a, b, c, d].all oneC = true) (hc : a.cells = #[a] ∧ b.cells = #[b] ∧ c.cells = #[c] ∧ d.cells = #[d]) : bld [(.slice none 0 0), (.slice none 0 0), (.slice none 0 0), (.slice none 0 0)] [(0, 1, a), (1, 1, b), (2, 1, c), (3, 1, d)] H = some (.agg #[a, b, c, d], H) := by
  obtain ⟨h1, h2, h3, h4⟩ := hc
  simp [bld, fillC, h1, h2, h3, h4, splice]
theorem slc_cells {R : Nat → Prop} {H : Heap} {v : Value} {sz n : Nat} {cs : List Value} (h : Sl R H sz v n cs) : v.cells = #[v] ∧ oneC v = true := by
  rcases h with ⟨rfl, _⟩ | ⟨_, _, _, _, rfl, _⟩ | ⟨_, _, _, _, _, rfl, _⟩ <;> exact ⟨rfl, rfl⟩
theorem new_ok {H : Heap} (hs : Sl (all H) H 7 v l.length (NDS l)) (hO : OkW l (upN l)) : ∃ w bI bO vu H', ClX 41 [v] H (ptr w 0) H' ∧ WK H' w bI bO v vu l (upN l) none2 ∧ Keep (all H) H H' ∧ H.n ≤ w ∧ H.n ≤ bI ∧ H.n ≤ bO := by
  obtain ⟨hlen, _, hin, _⟩ := hO
  obtain ⟨cv, ov⟩ := slc_cells hs
  obtain ⟨H1, hH1⟩ : ∃ H1, H.push ⟨NI (List.replicate l.length 0), 1, true⟩ = H1 := ⟨_, rfl⟩
  obtain ⟨H2, hH2⟩ : ∃ H2, H1.push ⟨MB 0 l.length none2, 1, true⟩ = H2 := ⟨_, rfl⟩
  obtain ⟨H3, hH3⟩ : ∃ H3, H2.push ⟨MB 1 l.length none2, 1, true⟩ = H3 := ⟨_, rfl⟩
  obtain ⟨cs, hcs⟩ : ∃ cs, [v, .slice (some ⟨H.n, 0, none⟩) l.length l.length, .slice (some ⟨H1.n, 0, none⟩) l.length l.length, .slice (some ⟨H2.n, 0, none⟩) l.length l.length] = cs := ⟨_, rfl⟩
  obtain ⟨H4, hH4⟩ : ∃ H4, H3.push ⟨cs, 1, true⟩ = H4 := ⟨_, rfl⟩
  have n1 : H1.n = H.n + 1 := by rw [← hH1]; rfl
  have n2 : H2.n = H.n + 2 := by rw [← hH2, push_n, n1]
  have n3 : H3.n = H.n + 3 := by rw [← hH3, push_n, n2]
  have n4 : H4.n = H.n + 4 := by rw [← hH4, push_n, n3]
  have k1 : Keep (all H) H H1 := by rw [← hH1]; exact push_keep
  have k2 : Keep (all H1) H1 H2 := by rw [← hH2]; exact push_keep
  have k3 : Keep (all H2) H2 H3 := by rw [← hH3]; exact push_keep
  have k4 : Keep (all H3) H3 H4 := by rw [← hH4]; exact push_keep
  have kk : Keep (all H) H H4 := k1.trans ((k2.trans ((k3.trans (k4.mono (upA k3))).mono (upA k2))).mono (upA k1))
  have hone : cs.all oneC = true := by rw [← hcs]; simp only [List.all_cons, List.all_nil, ov]; rfl
  have hwn : WN H H4 H3.n H.n H1.n H2.n v l.length (List.replicate l.length 0) := by
    refine ⟨kk, by omega, by omega, by omega, by omega, by omega, by omega, by omega, by omega, by omega, by omega, by omega, by omega, by omega, by omega, ?_, ?_, ?_, ?_⟩
    · rw [← hH4, hcs]; exact push_self
    · rw [k4.2 _ (show H.n < H3.n by omega), k3.2 _ (show H.n < H2.n by omega), k2.2 _ (show H.n < H1.n by omega), ← hH1]; exact push_self
    · rw [k4.2 _ (show H1.n < H3.n by omega), k3.2 _ (show H1.n < H2.n by omega), ← hH2]; exact push_self
    · rw [k4.2 _ (show H2.n < H3.n by omega), ← hH3]; exact push_self
  obtain ⟨H', c, hf⟩ := new_loop hs hlen hin l.length 0 H4 _ (by omega) (by simp) hwn
  rw [← List.range_eq_range'] at hf
  refine ⟨H3.n, H1.n, H2.n, .slice (some ⟨H.n, 0, none⟩) l.length l.length, H', Ev.enter (fun n => f41_eq rfl n _ _) ?_, ?_, hf.k0, hf.lw, hf.lI, hf.lO⟩
  · have m1 : mkS 1 8 [.int .i64 0] (.int .i64 (l.length : Int)) (.int .i64 (l.length : Int)) H = some (.slice (some ⟨H.n, 0, none⟩) l.length l.length, H1) := by rw [← hH1]; exact mkI_ok (by omega)
    have m2 : mkS 1 1 [.bool false] (.int .i64 (l.length : Int)) (.int .i64 (l.length : Int)) H1 = some (.slice (some ⟨H1.n, 0, none⟩) l.length l.length, H2) := by rw [← hH2]; exact mkB_ok 0 (by omega)
    have m3 : mkS 1 1 [.bool false] (.int .i64 (l.length : Int)) (.int .i64 (l.length : Int)) H2 = some (.slice (some ⟨H2.n, 0, none⟩) l.length l.length, H3) := by rw [← hH3]; exact mkB_ok 1 (by omega)
    have hb := bldW (H := H3) (a := v) (b := .slice (some ⟨H.n, 0, none⟩) l.length l.length) (c := .slice (some ⟨H1.n, 0, none⟩) l.length l.length) (d := .slice (some ⟨H2.n, 0, none⟩) l.length l.length) (by rw [hcs]; exact hone) ⟨cv, rfl, rfl, rfl⟩
    have nw : newV (Value.cells (.agg #[v, .slice (some ⟨H.n, 0, none⟩) l.length l.length, .slice (some ⟨H1.n, 0, none⟩) l.length l.length, .slice (some ⟨H2.n, 0, none⟩) l.length l.length])).toList H3 = some (ptr H3.n 0, H4) := by
      rw [← hH4, ← hcs]; exact newA (cs := [v, .slice (some ⟨H.n, 0, none⟩) l.length l.length, .slice (some ⟨H1.n, 0, none⟩) l.length l.length, .slice (some ⟨H2.n, 0, none⟩) l.length l.length]) (by rw [hcs]; exact hone)
    simp only [f41, ruA, ruB, ruC, ruE, ruD, lenStr, Int.reduceBEq, Int.reduceBNe, hs.lenS, m1, m2, m3, hb, nw]
    exact Ev.loop c
  · have hsl : Sl (But2 H' H1.n H2.n) H' 7 v l.length (NDS l) := (hs.keep hf.k0).mono fun b hb => by
      have hb' : b < H.n := hb
      have := hf.k0.1
      exact ⟨by omega, by omega, by omega⟩
    have hul := upN_len l
    unfold upN at hul
    refine ⟨hf.hI, hf.hO, hf.d3, ⟨hf.hw, hf.d5, hf.d6⟩, hf.gw, hf.gI, hf.gO, hsl, ?_, hs.notBlk fun hb => by have : H3.n < H.n := hb; omega, by simp only [blkOf, ne_eq, Option.some.injEq]; omega⟩
    refine .inr (.inr ⟨H.n, 0, none, l.length, _, rfl, ⟨hf.hU, hf.d1, hf.d2⟩, hf.gU, ?_, Nat.le_refl _, ?_⟩)
    · simp only [NI, List.length_map, hul]; omega
    · simp only [cut, List.drop_zero]
      rw [List.take_of_length_le (by simp only [NI, List.length_map, hul]; omega)]
      rfl
end
end Go.Eng

set_option linter.unusedVariables false
set_option linter.unusedSimpArgs false
set_option linter.unusedSectionVars false
set_option maxRecDepth 100000
namespace Go.Eng
open Go Go.Proofs
section
variable {w bI bO : Nat} {v vu : Value} {l : List Nd} {up : List Nat} {M W : Nat → Bool}
def stepI (l : List Nd) (up : List Nat) (M : Nat → Bool) (c : Nat) (W : Nat → Bool) (i : Nat) : Nat → Bool := if M (2 * i) && setAt l i c then dfsV (suc l up) (2 * l.length) (2 * i + 1) W else W
theorem cnt_full (M : Nat → Bool) : ∀ N, cnt M N ≤ N
  | 0 => Nat.le_refl _
  | N + 1 => by
    have := cnt_full M N
    rw [cnt]; split <;> omega
theorem step_loop (hO : OkW l up) {b0 c : Nat} (hc : c < 256) : ∀ (k i : Nat) (H : Heap) (W : Nat → Bool), i + k = l.length → WK H w bI bO v vu l up W → But2 H bI bO b0 → H.get b0 = some ⟨MB 0 l.length M, 1, true⟩ →
    ∃ H', Ev (fun n m => f43_L0 real (AX n) n m (ptr w 0) (.int .u8 (c : Int)) (.slice (some ⟨b0, 0, none⟩) l.length l.length) v (.int .i64 (l.length : Int)) (.int .i64 (i : Int)) H) (.tuple #[], H') ∧ WK H' w bI bO v vu l up ((List.range' i k).foldl (stepI l up M c) W) ∧ Keep (But2 H bI bO) H H' := by
  have hlen := hO.1
  intro k
  induction k with
  | zero =>
    intro i H W hi h hb h0
    obtain rfl : i = l.length := by omega
    refine ⟨H, Ev.step (fun n m => f43_L0.eq_2 _ _ _ _ _ _ _ _ _ _ m) ?_, h, Keep.refl _ _⟩
    have e : ((l.length : Int) < (l.length : Int)) = False := by simp
    simp only [ruA, ruB, ruC, ruE, ruD, lenStr, Int.reduceBEq, Int.reduceBNe, e]
    exact Ev.pure _
  | succ k ih =>
    intro i H W hi h hb h0
    have hil : i < l.length := by omega
    obtain ⟨nd, hnd⟩ : ∃ nd, l[i]? = some nd := ⟨l[i], List.getElem?_eq_getElem hil⟩
    obtain ⟨ad, H1, q1, q2, q3, q4, h1, k1, g1, bb1⟩ := h.node hnd
    have kb1 : Keep (But2 H bI bO) H H1 := k1.mono (all_but2 _ _ _)
    have e : ((i : Int) < (l.length : Int)) = True := eq_true (by omega)
    have hb1 := but2_up k1.1 _ hb
    have h01 : H1.get b0 = some ⟨MB 0 l.length M, 1, true⟩ := (k1.2 _ hb.1).trans h0
    have lm : ldC (ptr b0 i) H1 = some (.bool (M (2 * i)), H1) := ldG h01 (by rw [MB_at hil]; simp)
    have hst : setAt l i c = (decide (nd.kind = 2) && nd.set.testBit c) := by unfold setAt; rw [hnd]
    rw [show List.range' i (k + 1) = i :: List.range' (i + 1) k from rfl, List.foldl_cons]
    have skip : ∀ H2, Keep (all H1) H1 H2 → WK H2 w bI bO v vu l up W → ∃ H', Ev (fun n m => f43_J1 real (AX n) n (f43_L0 real (AX n) n m) (ptr w 0) (.int .u8 (c : Int)) (.slice (some ⟨b0, 0, none⟩) l.length l.length) v (.int .i64 (l.length : Int)) (.int .i64 (i : Int)) H2) (.tuple #[], H') ∧ WK H' w bI bO v vu l up ((List.range' (i + 1) k).foldl (stepI l up M c) W) ∧ Keep (But2 H bI bO) H H' := fun H2 k2 h2 => by
      obtain ⟨H', r1, r2, r3⟩ := ih (i + 1) H2 W (by omega) h2 (but2_up k2.1 _ hb1) ((k2.2 _ hb1.1).trans h01)
      have kk := kb1.trans ((k2.mono (all_but2 _ _ _)).mono (but2_up kb1.1))
      refine ⟨H', ?_, r2, kk.trans (r3.mono (but2_up kk.1))⟩
      simp only [f43_J1, ruA, ruB, ruC, ruE, ruD, lenStr, Int.reduceBEq, Int.reduceBNe, idx_up (show i < 9223372036854775807 by omega)]
      exact r1
    by_cases hm : M (2 * i) = true
    · by_cases hk : nd.kind = 2
      · obtain ⟨H2, c2, k2⟩ := shas_ok (E := EX) (H := H1) rfl nd.set hc
        have h2 : WK H2 w bI bO v vu l up W := by
          have hh := h1
          have kx := k2
          exact ⟨Nat.lt_of_lt_of_le h1.hI k2.1, Nat.lt_of_lt_of_le h1.hO k2.1, h1.ne, but2_up k2.1 _ h1.hw, (k2.2 _ h1.hw.1).trans h1.gw, (k2.2 _ h1.hI).trans h1.gI, (k2.2 _ h1.hO).trans h1.gO,
            (h1.sl.keep (k2.mono (all_but2 _ _ _))).mono (but2_up k2.1), (h1.su.keep (k2.mono (all_but2 _ _ _))).mono (but2_up k2.1), h1.nv, h1.nu⟩
        by_cases hs : nd.set.testBit c = true
        · have hst' : stepI l up M c W i = dfsV (suc l up) (2 * l.length) (2 * i + 1) W := by
            unfold stepI; rw [hst, hm, hs, decide_eq_true hk]; rfl
          rw [hst']
          have kb2 := kb1.trans ((k2.mono (all_but2 _ _ _)).mono (but2_up kb1.1))
          obtain ⟨H3, c3, h3, k3⟩ := (walk_ok (w := w) (bI := bI) (bO := bO) (v := v) (vu := vu) hO (2 * l.length)).2 i H2 W hil (cnt_full _ _) h2
          have hb2 := but2_up k2.1 _ hb1
          obtain ⟨H', r1, r2, r3⟩ := ih (i + 1) H3 _ (by omega) h3 (but2_up k3.1 _ hb2) ((k3.2 _ hb2).trans ((k2.2 _ hb1.1).trans h01))
          have kk := kb2.trans (k3.mono (but2_up kb2.1))
          refine ⟨H', Ev.step (fun n m => f43_L0.eq_2 _ _ _ _ _ _ _ _ _ _ m) ?_, r2, kk.trans (r3.mono (but2_up kk.1))⟩
          simp only [ruA, ruB, ruC, ruE, ruD, lenStr, Int.reduceBEq, Int.reduceBNe, e, q1, q2, show newV [(.int .i64 0), (.int .u64 0), (.int .u64 0), (.int .u64 0), (.int .u64 0), (.int .i64 0), (.int .i64 0)] _ = _ from q3, q4, iS hil, lm, hm, nd0 g1, hk, nd1 g1]
          refine Ev.callC c2 ?_
          simp only [ruA, ruB, ruC, ruE, ruD, lenStr, Int.reduceBEq, Int.reduceBNe, hs]
          refine Ev.callC c3 ?_
          simp only [f43_J1, ruA, ruB, ruC, ruE, ruD, lenStr, Int.reduceBEq, Int.reduceBNe, idx_up (show i < 9223372036854775807 by omega)]
          exact r1
        · have hs' : nd.set.testBit c = false := by simpa using hs
          have hst' : stepI l up M c W i = W := by
            unfold stepI; rw [hst, hs']; simp
          rw [hst']
          obtain ⟨H', r1, r2, r3⟩ := skip H2 k2 h2
          refine ⟨H', Ev.step (fun n m => f43_L0.eq_2 _ _ _ _ _ _ _ _ _ _ m) ?_, r2, r3⟩
          simp only [ruA, ruB, ruC, ruE, ruD, lenStr, Int.reduceBEq, Int.reduceBNe, e, q1, q2, show newV [(.int .i64 0), (.int .u64 0), (.int .u64 0), (.int .u64 0), (.int .u64 0), (.int .i64 0), (.int .i64 0)] _ = _ from q3, q4, iS hil, lm, hm, nd0 g1, hk, nd1 g1]
          refine Ev.callC c2 ?_
          simp only [ruA, ruB, ruC, ruE, ruD, lenStr, Int.reduceBEq, Int.reduceBNe, hs']
          exact r1
      · have hst' : stepI l up M c W i = W := by
          unfold stepI; rw [hst, decide_eq_false hk]; simp
        rw [hst']
        obtain ⟨H', r1, r2, r3⟩ := skip H1 (Keep.refl _ _) h1
        refine ⟨H', Ev.step (fun n m => f43_L0.eq_2 _ _ _ _ _ _ _ _ _ _ m) ?_, r2, r3⟩
        simp only [ruA, ruB, ruC, ruE, ruD, lenStr, Int.reduceBEq, Int.reduceBNe, e, q1, q2, show newV [(.int .i64 0), (.int .u64 0), (.int .u64 0), (.int .u64 0), (.int .u64 0), (.int .i64 0), (.int .i64 0)] _ = _ from q3, q4, iS hil, lm, hm, nd0 g1, i_eq, decide_eq_false hk]
        exact r1
    · have hm' : M (2 * i) = false := by simpa using hm
      have hst' : stepI l up M c W i = W := by
        unfold stepI; rw [hm']; simp
      rw [hst']
      obtain ⟨H', r1, r2, r3⟩ := skip H1 (Keep.refl _ _) h1
      refine ⟨H', Ev.step (fun n m => f43_L0.eq_2 _ _ _ _ _ _ _ _ _ _ m) ?_, r2, r3⟩
      simp only [ruA, ruB, ruC, ruE, ruD, lenStr, Int.reduceBEq, Int.reduceBNe, e, q1, q2, show newV [(.int .i64 0), (.int .u64 0), (.int .u64 0), (.int .u64 0), (.int .u64 0), (.int .i64 0), (.int .i64 0)] _ = _ from q3, q4, iS hil, lm, hm']
      exact r1
theorem markS_eq (c : Nat) : markS l up M c = (List.range' 0 l.length).foldl (stepI l up M c) none2 := by
  unfold markS
  rw [List.range_eq_range']
  rfl
theorem step_ok (hO : OkW l up) {H : Heap} {c : Nat} (hc : c < 256) (h : WK H w bI bO v vu l up M) :
    ∃ H' bI' bO', ClX 43 [ptr w 0, .int .u8 (c : Int)] H (.tuple #[]) H' ∧ WK H' w bI' bO' v vu l up (markS l up M c) ∧ Keep (fun b => b < H.n ∧ b ≠ w) H H' ∧ H.n ≤ bI' ∧ H.n ≤ bO' := by
  have hlen := hO.1
  obtain ⟨l0, l1, l2, l3⟩ := ld_w h
  obtain ⟨H1, hH1⟩ : ∃ H1, H.push ⟨MB 0 l.length none2, 1, true⟩ = H1 := ⟨_, rfl⟩
  obtain ⟨H2, hH2⟩ : ∃ H2, H1.push ⟨MB 1 l.length none2, 1, true⟩ = H2 := ⟨_, rfl⟩
  have n1 : H1.n = H.n + 1 := by rw [← hH1]; rfl
  have n2 : H2.n = H.n + 2 := by rw [← hH2, push_n, n1]
  have k1 : Keep (all H) H H1 := by rw [← hH1]; exact push_keep
  have k2 : Keep (all H1) H1 H2 := by rw [← hH2]; exact push_keep
  have k12 := k1.trans (k2.mono (upA k1))
  have hwn : w < H.n := h.hw.1
  have hIn := h.hI
  have hOn := h.hO
  have gw2 := (k12.2 _ hwn).trans h.gw
  obtain ⟨H3, hH3⟩ : ∃ H3, H2.upd w (some ⟨[v, vu, .slice (some ⟨H.n, 0, none⟩) l.length l.length, .slice (some ⟨bO, 0, none⟩) l.length l.length], 1, true⟩) = H3 := ⟨_, rfl⟩
  obtain ⟨H4, hH4⟩ : ∃ H4, H3.upd w (some ⟨[v, vu, .slice (some ⟨H.n, 0, none⟩) l.length l.length, .slice (some ⟨H1.n, 0, none⟩) l.length l.length], 1, true⟩) = H4 := ⟨_, rfl⟩
  have n3 : H3.n = H.n + 2 := by rw [← hH3, upd_n, n2]
  have n4 : H4.n = H.n + 2 := by rw [← hH4, upd_n, n3]
  have s1 : stV 1 (ptr w 2) (.slice (some ⟨H.n, 0, none⟩) l.length l.length) H2 = some (undef, H3) := by
    rw [stV1_box gw2 (by show 2 < 4; omega) rfl rfl, ← hH3]; rfl
  have gw3 : H3.get w = some ⟨[v, vu, .slice (some ⟨H.n, 0, none⟩) l.length l.length, .slice (some ⟨bO, 0, none⟩) l.length l.length], 1, true⟩ := by rw [← hH3]; exact upd_self
  have s2 : stV 1 (ptr w 3) (.slice (some ⟨H1.n, 0, none⟩) l.length l.length) H3 = some (undef, H4) := by
    rw [stV1_box gw3 (by show 3 < 4; omega) rfl rfl, ← hH4]; rfl
  have o34 : ∀ b, b ≠ w → H4.get b = H2.get b := fun b hb => by rw [← hH4, upd_ne hb, ← hH3, upd_ne hb]
  have kw : Keep (fun b => b < H.n ∧ b ≠ w) H H4 := ⟨by omega, fun b hb => by rw [o34 b hb.2, k12.2 b hb.1]⟩
  have h4 : WK H4 w H.n H1.n v vu l up none2 := by
    have kb : Keep (But2 H bI bO) H H4 → True := fun _ => trivial
    refine ⟨by omega, by omega, by omega, ⟨by omega, by omega, by omega⟩, by rw [← hH4]; exact upd_self, ?_, ?_, ?_, ?_, h.nv, h.nu⟩
    · rw [o34 _ (by omega), k2.2 _ (show H.n < H1.n by omega), ← hH1]; exact push_self
    · rw [o34 _ (by omega), ← hH2]; exact push_self
    · exact ((h.sl.apart h.nv).keep (kw.mono fun b hb => ⟨hb.1.1, hb.2⟩)).mono fun b hb => by have := hb.1.1; exact ⟨by omega, by omega, by omega⟩
    · exact ((h.su.apart h.nu).keep (kw.mono fun b hb => ⟨hb.1.1, hb.2⟩)).mono fun b hb => by have := hb.1.1; exact ⟨by omega, by omega, by omega⟩
  have hb0 : But2 H4 H.n H1.n bI := ⟨by omega, by omega, by omega⟩
  have g0 : H4.get bI = some ⟨MB 0 l.length M, 1, true⟩ := by rw [o34 _ (Ne.symm h.hw.2.1), k12.2 _ hIn]; exact h.gI
  obtain ⟨H', r1, r2, r3⟩ := step_loop (w := w) hO hc l.length 0 H4 none2 (by omega) h4 hb0 g0
  rw [← markS_eq] at r2
  refine ⟨H', H.n, H1.n, Ev.enter (fun n => f43_eq rfl n _ _ _) ?_, r2, kw.trans (r3.mono fun b hb => ⟨by omega, by omega, by omega⟩), Nat.le_refl _, by omega⟩
  have l02 : ldC (ptr w 0) H1 = some (v, H1) := ldG ((k1.2 _ hwn).trans h.gw) rfl
  have l04 : ldC (ptr w 0) H4 = some (v, H4) := (ld_w h4).1
  have m1 : mkS 1 1 [.bool false] (.int .i64 (l.length : Int)) (.int .i64 (l.length : Int)) H = some (.slice (some ⟨H.n, 0, none⟩) l.length l.length, H1) := by rw [← hH1]; exact mkB_ok 0 (by omega)
  have m2 : mkS 1 1 [.bool false] (.int .i64 (l.length : Int)) (.int .i64 (l.length : Int)) H1 = some (.slice (some ⟨H1.n, 0, none⟩) l.length l.length, H2) := by rw [← hH2]; exact mkB_ok 1 (by omega)
  have sb : sameBlk H2 H3 (some H1.n) = true := sameBlk_of fun c hcc => by
    simp only [Option.some.injEq] at hcc
    subst hcc
    rw [← hH3, upd_ne (by omega)]
  simp only [f43, ruA, ruB, ruC, ruE, ruD, lenStr, Int.reduceBEq, Int.reduceBNe, l2, l0, h.sl.lenS, m1, l02, m2, s1, sb, Bool.and_true, s2, l04]
  exact Ev.loop r1
def runM (l : List Nd) (up : List Nat) (T : List Nat) (M : Nat → Bool) : Nat → Bool := T.foldl (markS l up) M
theorem takes_loop (hO : OkW l up) {q : Nat} {vt : Value} {T : List Nat} (hT : ∀ c ∈ T, c < 256) (hTl : T.length ≤ 8192) {n : Nat} (hn : l.length = n + 1) : ∀ (k i : Nat) (H : Heap) (bI bO : Nat) (M : Nat → Bool), i + k = T.length → WK H w bI bO v vu l up M →
    Sl (fun b => b < H.n ∧ b ≠ w) H 1 vt T.length (B T) → q < H.n → q ≠ w → H.get q = some ⟨[v], 1, true⟩ →
    ∃ H', Ev (fun n m => f20_L0 real (AX n) n m (ptr q 0) (ptr w 0) vt (.int .i64 (T.length : Int)) (.int .i64 (i : Int)) H) (.tuple #[.bool (runM l up (T.drop i) M (2 * n + 1)), .int .i64 0], H') ∧ Keep (fun b => b < H.n ∧ b ≠ w ∧ b ≠ bI ∧ b ≠ bO) H H' := by
  have hlen := hO.1
  intro k
  induction k with
  | zero =>
    intro i H bI bO M hi h ht hq hqw gq
    obtain rfl : i = T.length := by omega
    refine ⟨H, Ev.step (fun n m => f20_L0.eq_2 _ _ _ _ _ _ _ _ _ m) ?_, Keep.refl _ _⟩
    have e : ((T.length : Int) < (T.length : Int)) = False := by simp
    have z0 : ldC (ptr q 0) H = some (v, H) := ldG gq rfl
    obtain ⟨_, _, _, l3⟩ := ld_w h
    have w1 : IntKind.i64.wrap ((l.length : Int) - 1) = (n : Int) := by rw [wrap_i64 (by omega) (by omega)]; omega
    have lm : ldC (ptr bO n) H = some (.bool (M (2 * n + 1)), H) := ldG h.gO (MB_at (by omega))
    simp only [ruA, ruB, ruC, ruE, ruD, lenStr, Int.reduceBEq, Int.reduceBNe, e, l3, z0, h.sl.lenS, w1, iS (show n < l.length by omega), lm]
    rw [List.drop_length]
    exact Ev.pure _
  | succ k ih =>
    intro i H bI bO M hi h ht hq hqw gq
    have hil : i < T.length := by omega
    obtain ⟨p, p1, p2⟩ := ht.at1 (i := i) (x := .int .u8 ((T[i] : Nat) : Int)) (by simp [B, hil])
    obtain ⟨H1, bI1, bO1, c1, h1, k1, i1, i2⟩ := step_ok hO (hT T[i] (List.getElem_mem hil)) h
    obtain ⟨H', r1, r2⟩ := ih (i + 1) H1 bI1 bO1 _ (by omega) h1 ((ht.keep k1).mono fun b hb => ⟨Nat.lt_of_lt_of_le hb.1 k1.1, hb.2⟩) (Nat.lt_of_lt_of_le hq k1.1) hqw ((k1.2 _ ⟨hq, hqw⟩).trans gq)
    have hn1 := k1.1
    refine ⟨H', Ev.step (fun n m => f20_L0.eq_2 _ _ _ _ _ _ _ _ _ m) ?_, (k1.mono fun b hb => ⟨hb.1, hb.2.1⟩).trans (r2.mono fun b hb => ⟨by omega, hb.2.1, by omega, by omega⟩)⟩
    have e : ((i : Int) < (T.length : Int)) = True := eq_true (by omega)
    rw [List.drop_eq_getElem_cons hil]
    simp only [ruA, ruB, ruC, ruE, ruD, lenStr, Int.reduceBEq, Int.reduceBNe, e, p1, p2]
    refine Ev.callC c1 ?_
    simp only [ruA, ruB, ruC, ruE, ruD, lenStr, Int.reduceBEq, Int.reduceBNe, idx_up (show i < 9223372036854775807 by omega)]
    exact r1
theorem takesT_no {H : Heap} {vt : Value} (hc : chkN l ≠ 0) (hs : Sl (all H) H 7 v l.length (NDS l)) : ∃ H', ClX 20 [.agg #[v], vt] H (.tuple #[.bool false, .int .i64 (chkN l)]) H' ∧ Keep (all H) H H' := by
  obtain ⟨cv, ov⟩ := slc_cells hs
  have hv1 : [v].all oneC = true := by simp [ov]
  obtain ⟨H1, hH1⟩ : ∃ H1, H.push ⟨[v], 1, true⟩ = H1 := ⟨_, rfl⟩
  have k1 : Keep (all H) H H1 := by rw [← hH1]; exact push_keep
  have g1 : H1.get H.n = some ⟨[v], 1, true⟩ := by rw [← hH1]; exact push_self
  have nv : newV (Value.cells (.agg #[v])).toList H = some (ptr H.n 0, H1) := by rw [← hH1]; exact newA (cs := [v]) hv1
  have la : ldA 1 (ptr H.n 0) H1 = some (.agg #[v], H1) := ldAG (cs := [v]) g1 rfl
  obtain ⟨H2, c2, k2⟩ := check_ok ((hs.keep k1).mono (upA k1))
  refine ⟨H2, Ev.enter (fun n => f20_eq rfl n _ _ _) ?_, k1.trans (k2.mono (upA k1))⟩
  simp only [f20, ruA, ruB, ruC, ruE, ruD, lenStr, Int.reduceBEq, Int.reduceBNe, nv, la]
  refine Ev.callC c2 ?_
  simp only [ruA, ruB, ruC, ruE, ruD, lenStr, Int.reduceBEq, Int.reduceBNe, i_ne, decide_eq_false hc]
  exact Ev.pure _
def takesN (l : List Nd) (T : List Nat) : Bool := runM l (upN l) T (mark0 l (upN l)) (2 * (l.length - 1) + 1)
theorem takesT_any {H : Heap} {vt : Value} {T : List Nat} (hc : chkN l = 0) (hO : OkW l (upN l)) (hs : Sl (all H) H 7 v l.length (NDS l)) (ht : Sl (all H) H 1 vt T.length (B T)) (hTb : ∀ c ∈ T, c < 256) :
    ∃ H', ClX 20 [.agg #[v], vt] H (if 8192 < T.length then .tuple #[.bool false, .int .i64 5] else .tuple #[.bool (takesN l T), .int .i64 0]) H' ∧ Keep (all H) H H' := by
  have hlen := hO.1
  obtain ⟨cv, ov⟩ := slc_cells hs
  have hv1 : [v].all oneC = true := by simp [ov]
  obtain ⟨n, hn⟩ : ∃ n, l.length = n + 1 := by
    cases h0 : l.length with
    | zero => unfold chkN at hc; rw [h0] at hc; simp at hc
    | succ n => exact ⟨n, rfl⟩
  obtain ⟨H1, hH1⟩ : ∃ H1, H.push ⟨[v], 1, true⟩ = H1 := ⟨_, rfl⟩
  have n1 : H1.n = H.n + 1 := by rw [← hH1]; rfl
  have k1 : Keep (all H) H H1 := by rw [← hH1]; exact push_keep
  have g1 : H1.get H.n = some ⟨[v], 1, true⟩ := by rw [← hH1]; exact push_self
  have nv : newV (Value.cells (.agg #[v])).toList H = some (ptr H.n 0, H1) := by rw [← hH1]; exact newA (cs := [v]) hv1
  have la : ldA 1 (ptr H.n 0) H1 = some (.agg #[v], H1) := ldAG (cs := [v]) g1 rfl
  have okl : okL l := by unfold okL; omega
  obtain ⟨H2, c2, k2⟩ := check_ok ((hs.keep k1).mono (upA k1))
  rw [hc] at c2
  have k12 := k1.trans (k2.mono (upA k1))
  have g2 : H2.get H.n = some ⟨[v], 1, true⟩ := by rw [k2.2 _ (show H.n < H1.n by omega)]; exact g1
  have z0 : ldC (ptr H.n 0) H2 = some (v, H2) := ldG g2 rfl
  have hn2 : H.n < H2.n := by have := k2.1; omega
  by_cases hbig : 8192 < T.length
  · rw [if_pos hbig]
    refine ⟨H2, Ev.enter (fun n => f20_eq rfl n _ _ _) ?_, k12⟩
    have e : ((T.length : Int) > 8192) = True := eq_true (by omega)
    simp only [f20, ruA, ruB, ruC, ruE, ruD, lenStr, Int.reduceBEq, Int.reduceBNe, nv, la]
    refine Ev.callC c2 ?_
    simp only [ruA, ruB, ruC, ruE, ruD, lenStr, Int.reduceBEq, Int.reduceBNe, ht.lenS, e]
    exact Ev.pure _
  rw [if_neg hbig]
  have e : ((T.length : Int) > 8192) = False := eq_false (by omega)
  obtain ⟨w, bI, bO, vu, H3, c3, h3, k3, w1, w2, w3⟩ := new_ok ((hs.keep k12).mono (upA k12)) hO
  have k13 := k12.trans (k3.mono (upA k12))
  have hn3 := k3.1
  have g3 : H3.get H.n = some ⟨[v], 1, true⟩ := (k3.2 _ hn2).trans g2
  have z3 : ldC (ptr H.n 0) H3 = some (v, H3) := ldG g3 rfl
  obtain ⟨H4, c4, h4, k4⟩ := (walk_ok (w := w) (bI := bI) (bO := bO) (v := v) (vu := vu) hO (2 * l.length)).1 n H3 none2 (by omega) (cnt_full _ _) h3
  have hn4 := k4.1
  have k14 : Keep (all H) H H4 := k13.trans (k4.mono fun b hb => by
    have hb' : b < H.n := hb
    exact ⟨by omega, by omega, by omega⟩)
  have g4 : H4.get H.n = some ⟨[v], 1, true⟩ := (k4.2 _ ⟨by omega, by omega, by omega⟩).trans g3
  have hm0 : dfsV (suc l (upN l)) (2 * l.length) (2 * n) none2 = mark0 l (upN l) := by unfold mark0; rw [hn]; simp
  rw [hm0] at h4
  obtain ⟨H5, c5, k5⟩ := takes_loop hO (q := H.n) (vt := vt) hTb (by omega) hn T.length 0 H4 bI bO _ (by omega) h4 ((ht.keep k14).mono fun b hb => by have hb' : b < H.n := hb; exact ⟨by omega, by omega⟩) (by omega) (by omega) g4
  rw [List.drop_zero] at c5
  have hres : runM l (upN l) T (mark0 l (upN l)) (2 * n + 1) = takesN l T := by unfold takesN; rw [hn]; simp
  rw [hres] at c5
  have w5 : IntKind.i64.wrap ((l.length : Int) - 1) = (n : Int) := by rw [wrap_i64 (by omega) (by omega)]; omega
  refine ⟨H5, Ev.enter (fun n => f20_eq rfl n _ _ _) ?_, k14.trans (k5.mono fun b hb => by
    have hb' : b < H.n := hb
    exact ⟨by omega, by omega, by omega, by omega⟩)⟩
  simp only [f20, ruA, ruB, ruC, ruE, ruD, lenStr, Int.reduceBEq, Int.reduceBNe, nv, la]
  refine Ev.callC c2 ?_
  simp only [ruA, ruB, ruC, ruE, ruD, lenStr, Int.reduceBEq, Int.reduceBNe, ht.lenS, e, z0]
  refine Ev.callC c3 ?_
  simp only [ruA, ruB, ruC, ruE, ruD, lenStr, Int.reduceBEq, Int.reduceBNe, z3, hs.lenS, w5]
  refine Ev.callC c4 ?_
  exact Ev.loop c5
theorem takesT_ok {H : Heap} {vt : Value} {T : List Nat} (hc : chkN l = 0) (hO : OkW l (upN l)) (hs : Sl (all H) H 7 v l.length (NDS l)) (ht : Sl (all H) H 1 vt T.length (B T)) (hTb : ∀ c ∈ T, c < 256) (hTl : T.length < 4611686018427387904) :
    ∃ H', ClX 20 [.agg #[v], vt] H (if 8192 < T.length then .tuple #[.bool false, .int .i64 5] else .tuple #[.bool (takesN l T), .int .i64 0]) H' ∧ Keep (all H) H H' := takesT_any hc hO hs ht hTb
end
end Go.Eng
