/- An operation of a region whose order is drawn is carried out. -/
import Derived.Test.YtiflkdemlhpibaaDoorEnhP
set_option linter.unusedVariables false
namespace Go.Eng
open Go

section
variable {P : Program} {gl : Bool} {C : CallF} {N : Nat} {all : List Oper} {e : Nat → Env} {h : Nat → Heap} {v : Nat → Value} {m0 : Mp} {w0 : World} {df : List Deferred} {D : Nat → Prop} {nx : Nat} {env : Env} {a : Act} {m : Mp} {V : Heap} {w : World}

/-- It is passed over. -/
theorem Inv.skip (X : Ctx P C N all e h v) (I : Inv P N all e h m0 w0 df D nx env a m V w) {i : Nat} {o : Oper} (ho : all[i]? = some o) (hi : ¬ D i) (hrdy : ∀ x ∈ o.after, Region.binds .any x = true → D x.on)
    (hw : wantedE all o (e i) = false) : ∃ nx', Inv P N all e h m0 w0 df (fun j => D j ∨ j = i) nx' (putE N env o.dst (v i)) (a.put o.dst undef) m V w := by
  have hil : i < all.length := (List.getElem?_eq_some_iff.1 ho).1
  obtain ⟨hv, hh⟩ := X.T.no i o (Nat.zero_le _) hil ho hw
  obtain ⟨t1, t2⟩ := I.temps X ho hi hrdy (MLe.refl m) (v' := undef) (by rw [hv]; exact VRel.undef)
  have hcl : ∀ j q, all[j]? = some q → (D j ∨ j = i) → ∀ x ∈ q.after, Region.binds .any x = true → D x.on ∨ x.on = i := fun j q hq hD x hx hb => by
    rcases hD with hD | rfl
    · exact .inl (I.cl j q hq hD x hx hb)
    · rw [ho] at hq; cases hq; exact .inl (hrdy x hx hb)
  have hmp : ∀ b p, m b = some p → b < (h 0).n ∨ ∃ j, (D j ∨ j = i) ∧ j < all.length ∧ (h j).n ≤ b ∧ b < (h (j + 1)).n := fun b p hp => by
    rcases I.mp b p hp with q | ⟨j, q1, q2⟩
    · exact .inl q
    · exact .inr ⟨j, .inl q1, q2⟩
  by_cases hk : kindOf P o.op = .act
  · obtain ⟨J, hbeh⟩ := I.atAct X ho hi hrdy hk
    refine ⟨i + 1, ?_⟩
    exact { J with
      cl := hcl, nxle := by omega
      ahead := fun j q hq hkq hlt => by
        rcases Nat.lt_succ_iff_lt_or_eq.1 hlt with h1 | h1
        · exact .inl (J.ahead j q hq hkq h1)
        · exact .inr h1
      behind := fun j q hq hkq hle hD => by
        rcases hD with hD | hD
        · exact hbeh j q hq hkq hle hD
        · omega
      mp := hmp
      c1 := by rw [hh]; exact J.c1
      c2 := by rw [hh]; exact J.c2
      l1 := fun k hk => by
        rcases Nat.lt_succ_iff_lt_or_eq.1 (Nat.lt_succ_of_le hk) with h1 | h1
        · exact J.l1 k (by omega)
        · rw [h1, hh]; exact J.l1 i (Nat.le_refl _)
      l2 := by rw [hh]; exact J.l2
      one := by rw [hh]; exact J.one
      fz := by rw [hh]; exact J.fz
      fr := by rw [hh]; exact J.fr
      en := t1, enF := t2
      asz := by rw [put_size]; exact J.asz
      adf := by rw [put_defers]; exact J.adf }
  · refine ⟨nx, ?_⟩
    exact { I with
      cl := hcl
      ahead := fun j q hq hkq hlt => .inl (I.ahead j q hq hkq hlt)
      behind := fun j q hq hkq hle hD => by
        rcases hD with hD | rfl
        · exact I.behind j q hq hkq hle hD
        · rw [ho] at hq; cases hq; exact hk hkq
      mp := hmp
      en := t1, enF := t2
      asz := by rw [put_size]; exact I.asz
      adf := by rw [put_defers]; exact I.adf }

/-- A call, a store is carried out. -/
theorem Inv.act (X : Ctx P C N all e h v) (I : Inv P N all e h m0 w0 df D nx env a m V w) {i : Nat} {o : Oper} (ho : all[i]? = some o) (hi : ¬ D i) (hrdy : ∀ x ∈ o.after, Region.binds .any x = true → D x.on)
    (hk : kindOf P o.op = .act) {m' : Mp} {v' : Value} {w' : World} (hv : VRel m' (v i) v') (S : Step (restr m (h i).n) (h i) w m' (h (i + 1)) w') :
    ∃ m2 V2, Inv P N all e h m0 w0 df (fun j => D j ∨ j = i) (i + 1) (putE N env o.dst (v i)) (a.put o.dst v') m2 V2 w' := by
  have hil : i < all.length := (List.getElem?_eq_some_iff.1 ho).1
  obtain ⟨J, hbeh⟩ := I.atAct X ho hi hrdy hk
  have hmono := (X.mono1 hil).1
  have h0i := (X.monoN (Nat.zero_le i) (by omega)).1
  obtain ⟨mm, VV, r1, r2, r3, r4, r5, r6, r7, r8, r9, r10⟩ := mergeAct J.rel (fun b p hb hp => J.c1 b p hp hb) (fun b h1 h2 => J.gap X hil hi h1 h2) S
  have hlow' : MLow m' (h (i + 1)).n := S.keepLow (restr_low _ _)
  have hv2 : VRel (restr mm (h (i + 1)).n) (v i) v' := by
    refine hv.mono fun b p hb => ?_
    unfold restr
    rw [if_pos (hlow' b p hb)]
    exact r3 b p hb
  obtain ⟨t1, t2⟩ := J.temps X ho hi hrdy r2 hv2
  refine ⟨mm, VV, ?_⟩
  exact {
    cl := fun j q hq hD x hx hb => by
      rcases hD with hD | rfl
      · exact .inl (J.cl j q hq hD x hx hb)
      · rw [ho] at hq; cases hq; exact .inl (hrdy x hx hb)
    nxle := by omega
    ahead := fun j q hq hkq hlt => by
      rcases Nat.lt_succ_iff_lt_or_eq.1 hlt with h1 | h1
      · exact .inl (J.ahead j q hq hkq h1)
      · exact .inr h1
    behind := fun j q hq hkq hle hD => by
      rcases hD with hD | hD
      · exact hbeh j q hq hkq hle hD
      · omega
    rel := r1
    ml := fun b p hp => by
      by_cases hb : b < (h (i + 1)).n
      · omega
      · rw [r5 b (.inr (by omega))] at hp
        have := J.ml b p hp; omega
    x := fun b hb => by rw [r4 b (by omega)]; exact J.x b hb
    mp := fun b p hp => by
      by_cases h1 : b < (h i).n ∨ (h (i + 1)).n ≤ b
      · rw [r5 b h1] at hp
        rcases J.mp b p hp with q | ⟨j, q1, q2⟩
        · exact .inl q
        · exact .inr ⟨j, .inl q1, q2⟩
      · exact .inr ⟨i, .inr rfl, hil, by omega, by omega⟩
    c1 := fun b p hp hb => r6 b hb
    c2 := fun b p hp hb j hj h1 h2 => by
      rw [r7 b hb]
      rw [r5 b (.inr hb)] at hp
      exact J.c2 b p hp (by omega) j hj h1 h2
    l1 := fun k hk b p blk hp hb hV j y hy => by
      rcases Nat.lt_succ_iff_lt_or_eq.1 (Nat.lt_succ_of_le hk) with h1 | h1
      · have := (X.monoN (show k ≤ i by omega) (by omega)).1
        rw [r4 b (by omega)] at hp
        exact J.l1 k (by omega) b p blk hp hb hV j y hy
      · subst h1
        rw [r8 b hb] at hp
        exact (S.rel.blk b blk p hV hp).loc hlow' j y hy
    l2 := fun b p blk hp hb hV j hj h1 h2 k y hy => by
      rw [r7 b hb] at hV
      rw [r5 b (.inr hb)] at hp
      exact J.l2 b p blk hp (by omega) hV j hj h1 h2 k y hy
    one := S.rel.one
    fz := fun b blk hb hof => by
      rw [J.fz b blk hb hof]
      exact ⟨fun hg => S.old b blk (by omega) hg hof, fun hg => S.back b blk (by omega) hg hof⟩
    fr := fun b blk hb hg => by
      by_cases h1 : b < (h i).n
      · cases hof : blk.own with
        | true => rfl
        | false =>
          have := J.fr b blk hb (S.back b blk h1 hg hof)
          rw [hof] at this; cases this
      · exact S.fresh b blk (by omega) hg
    en := t1, enF := t2
    size := Nat.le_trans J.size S.size
    frame := fun c hc hn => by
      rw [S.frame c (Nat.lt_of_lt_of_le hc J.size) fun b blk p hb hof hp heq => ?_]
      · exact J.frame c hc hn
      · have hb1 := restr_low _ _ b p hp
        have hp1 := restr_le _ _ b p hp
        obtain ⟨b0, k0, p0, q1, q2, q3, q4⟩ := J.own b blk p ((J.c1 b p hp1 hb1).trans hb) hof hp1 (by rw [heq]; exact hc)
        exact hn b0 k0 p0 q1 q2 q3 (q4.trans heq)
    own := fun b blk p hb hof hp hlt => by
      by_cases h1 : b < (h (i + 1)).n
      · rw [r6 b h1] at hb
        rw [r8 b h1] at hp
        obtain ⟨b1, k1, p1, q1, q2, q3, q4⟩ := S.own b blk p hb hof hp (Nat.lt_of_lt_of_le hlt J.size)
        have hb1 := restr_low _ _ b1 p1 q3
        have hp1 := restr_le _ _ b1 p1 q3
        obtain ⟨b0, k0, p0, s1, s2, s3, s4⟩ := J.own b1 k1 p1 ((J.c1 b1 p1 hp1 hb1).trans q1) q2 hp1 (by rw [q4]; exact hlt)
        exact ⟨b0, k0, p0, s1, s2, s3, s4.trans q4⟩
      · rw [r7 b (by omega)] at hb
        rw [r5 b (.inr (by omega))] at hp
        exact J.own b blk p hb hof hp hlt
    os := S.os.trans J.os
    tape := S.tape.trans J.tape
    output := S.output.trans J.output
    asz := by rw [put_size]; exact J.asz
    adf := by rw [put_defers]; exact J.adf }

/-- A block is made. -/
theorem Inv.make (X : Ctx P C N all e h v) (I : Inv P N all e h m0 w0 df D nx env a m V w) {i : Nat} {o : Oper} (ho : all[i]? = some o) (hi : ¬ D i) (hrdy : ∀ x ∈ o.after, Region.binds .any x = true → D x.on)
    (hk : kindOf P o.op = .make) (hw : wantedE all o (e i) = true) {blk : Blk} (hh : h (i + 1) = (h i).push blk) {m' : Mp} {v' : Value} {w' : World} (hv : VRel m' (v i) v')
    (S : Step (restr m (h i).n) ⟨(h i).n, fun _ => none⟩ w m' (Heap.push ⟨(h i).n, fun _ => none⟩ blk) w') :
    ∃ m2 V2, Inv P N all e h m0 w0 df (fun j => D j ∨ j = i) nx (putE N env o.dst (v i)) (a.put o.dst v') m2 V2 w' := by
  have hil : i < all.length := (List.getElem?_eq_some_iff.1 ho).1
  have hn1 : (h (i + 1)).n = (h i).n + 1 := by rw [hh]; rfl
  have hgl : (h (i + 1)).get (h i).n = some blk := by rw [hh]; simp [Heap.push]
  have h0i := (X.monoN (Nat.zero_le i) (by omega)).1
  have hW := I.waits X ho hi hrdy
  have hgap : m (h i).n = none := I.gap X hil hi (Nat.le_refl _) (by omega)
  obtain ⟨mm, VV, r1, r2, r3, r4, r5, r6, r7, r8, r9, r10, r11⟩ := mergeNew I.rel hgap S
  have hlow' : MLow m' (h (i + 1)).n := by rw [hn1]; exact S.keepLow (restr_low _ _)
  have hv2 : VRel (restr mm (h (i + 1)).n) (v i) v' := by
    refine hv.mono fun b p hb => ?_
    unfold restr
    rw [if_pos (hlow' b p hb)]
    exact r3 b p hb
  obtain ⟨t1, t2⟩ := I.temps X ho hi hrdy r2 hv2
  have hcells : ∀ p, mm (h i).n = some p → ∀ (j : Nat) y, blk.vals[j]? = some y → Loc (h (i + 1)).n y := fun p hp j y hy => by
    rw [r7] at hp
    exact (S.rel.blk (h i).n blk p (by simp [Heap.push]) hp).loc hlow' j y hy
  -- where the calls have come beyond it, it stands there as it was made
  have hkeep : ∀ k, k ≤ nx → i < k → (h k).get (h i).n = some blk := fun k hkn hlt => by
    have hnx := I.nxle
    rw [X.stable (show i + 1 ≤ k by omega) (by omega) (show (h i).n < (h (i + 1)).n by omega) fun j q h1 h2 hq hkq hwq => ?_]
    · exact hgl
    · have hchk := X.T.act i j o q (some (h i).n) (Nat.zero_le _) (by omega) (by have := I.nxle; omega) ho hq hw hwq (by simp [touch, hk]) hkq
      rcases hchk with hc | hc
      · simp only [ordered, Bool.or_eq_true] at hc
        rcases hc with hc | hc
        · rw [hW.2 j q hq (I.ahead j q hq hkq (by omega))] at hc; cases hc
        · have := (hW.1 j hc).2; omega
      · exact sameBlk_eq hc (Nat.lt_of_lt_of_le (show (h i).n < (h (i + 1)).n by omega) (X.monoN (by omega) (by have := I.nxle; omega)).1)
  have hside : ∀ k, (h i).n < (h k).n → i < k := fun k hlt => by
    rcases Nat.lt_or_ge i k with h1 | h1
    · exact h1
    · have := (X.monoN h1 (by omega)).1; omega
  refine ⟨mm, VV, ?_⟩
  exact {
    cl := fun j q hq hD x hx hb => by
      rcases hD with hD | rfl
      · exact .inl (I.cl j q hq hD x hx hb)
      · rw [ho] at hq; cases hq; exact .inl (hrdy x hx hb)
    nxle := I.nxle
    ahead := fun j q hq hkq hlt => .inl (I.ahead j q hq hkq hlt)
    behind := fun j q hq hkq hle hD => by
      rcases hD with hD | rfl
      · exact I.behind j q hq hkq hle hD
      · rw [ho] at hq; cases hq; rw [hk] at hkq; cases hkq
    rel := r1
    ml := fun b p hp => by
      by_cases hb : b = (h i).n
      · subst hb; exact r9
      · rw [r4 b hb] at hp
        have := I.ml b p hp; omega
    x := fun b hb => by rw [r4 b (by omega)]; exact I.x b hb
    mp := fun b p hp => by
      by_cases hb : b = (h i).n
      · exact .inr ⟨i, .inr rfl, hil, by omega, by omega⟩
      · rw [r4 b hb] at hp
        rcases I.mp b p hp with q | ⟨j, q1, q2⟩
        · exact .inl q
        · exact .inr ⟨j, .inl q1, q2⟩
    c1 := fun b p hp hb => by
      by_cases he : b = (h i).n
      · subst he; rw [r5, hkeep nx (Nat.le_refl _) (hside nx hb)]
      · rw [r6 b he]; rw [r4 b he] at hp; exact I.c1 b p hp hb
    c2 := fun b p hp hb j hj h1 h2 => by
      by_cases he : b = (h i).n
      · subst he
        have := X.maker hj hil h1 h2 (Nat.le_refl _) (by omega)
        subst this
        rw [r5, hgl]
      · rw [r6 b he]; rw [r4 b he] at hp; exact I.c2 b p hp hb j hj h1 h2
    l1 := fun kk hkk b p k hp hb hV j y hy => by
      by_cases he : b = (h i).n
      · subst he
        rw [hkeep kk hkk (hside kk hb)] at hV; injection hV with hV; subst hV
        exact (hcells p hp j y hy).mono (X.monoN (show i + 1 ≤ kk by have := hside kk hb; omega) (by have := I.nxle; omega)).1
      · rw [r4 b he] at hp; exact I.l1 kk hkk b p k hp hb hV j y hy
    l2 := fun b p k hp hb hV j hj h1 h2 k' y hy => by
      by_cases he : b = (h i).n
      · subst he
        have := X.maker hj hil h1 h2 (Nat.le_refl _) (by omega)
        subst this
        rw [r5] at hV; injection hV with hV; subst hV
        exact hcells p hp k' y hy
      · rw [r6 b he] at hV; rw [r4 b he] at hp; exact I.l2 b p k hp hb hV j hj h1 h2 k' y hy
    one := I.one
    fz := I.fz
    fr := I.fr
    en := t1, enF := t2
    size := Nat.le_trans I.size S.size
    frame := fun c hc hn => by
      rw [r10 c (Nat.lt_of_lt_of_le hc I.size)]; exact I.frame c hc hn
    own := fun b k p hb hof hp hlt => by
      by_cases he : b = (h i).n
      · subst he
        have := r11 p hp
        have := I.size; omega
      · rw [r6 b he] at hb; rw [r4 b he] at hp; exact I.own b k p hb hof hp hlt
    os := S.os.trans I.os
    tape := S.tape.trans I.tape
    output := S.output.trans I.output
    asz := by rw [put_size]; exact I.asz
    adf := by rw [put_defers]; exact I.adf }

/-- What only looks is carried out. -/
theorem Inv.look (X : Ctx P C N all e h v) (I : Inv P N all e h m0 w0 df D nx env a m V w) {i : Nat} {o : Oper} (ho : all[i]? = some o) (hi : ¬ D i) (hrdy : ∀ x ∈ o.after, Region.binds .any x = true → D x.on)
    (hk : kindOf P o.op ≠ .act) (hh : h (i + 1) = h i) {m' : Mp} {v' : Value} {w' : World} (hL : Loc (h i).n (v i)) (hv : VRel m' (v i) v') (S : Step m V w m' V w') :
    Inv P N all e h m0 w0 df (fun j => D j ∨ j = i) nx (putE N env o.dst (v i)) (a.put o.dst v') m V w' := by
  have hil : i < all.length := (List.getElem?_eq_some_iff.1 ho).1
  have hmm : m' = m := by
    funext b
    by_cases hb : b < V.n
    · exact S.ext b hb
    · have h1 : m b = none := by
        cases hx : m b with
        | none => rfl
        | some p => exact absurd (I.ml b p hx) hb
      have h2 : m' b = none := by
        cases hx : m' b with
        | none => rfl
        | some p => exact absurd (S.keepLow I.ml b p hx) hb
      rw [h1, h2]
  subst hmm
  obtain ⟨t1, t2⟩ := I.temps X ho hi hrdy (MLe.refl m') (v' := v') (by rw [hh]; exact hv.restr hL)
  exact { I with
    cl := fun j q hq hD x hx hb => by
      rcases hD with hD | rfl
      · exact .inl (I.cl j q hq hD x hx hb)
      · rw [ho] at hq; cases hq; exact .inl (hrdy x hx hb)
    ahead := fun j q hq hkq hlt => .inl (I.ahead j q hq hkq hlt)
    behind := fun j q hq hkq hle hD => by
      rcases hD with hD | rfl
      · exact I.behind j q hq hkq hle hD
      · rw [ho] at hq; cases hq; exact hk hkq
    rel := S.rel
    mp := fun b p hp => by
      rcases I.mp b p hp with q | ⟨j, q1, q2⟩
      · exact .inl q
      · exact .inr ⟨j, .inl q1, q2⟩
    en := t1, enF := t2
    size := Nat.le_trans I.size S.size
    frame := fun c hc hn => by
      rw [S.frame c (Nat.lt_of_lt_of_le hc I.size) fun b blk p hb hof hp heq => ?_]
      · exact I.frame c hc hn
      · obtain ⟨b0, k0, p0, q1, q2, q3, q4⟩ := I.own b blk p hb hof hp (by rw [heq]; exact hc)
        exact hn b0 k0 p0 q1 q2 q3 (q4.trans heq)
    os := S.os.trans I.os
    tape := S.tape.trans I.tape
    output := S.output.trans I.output
    asz := by rw [put_size]; exact I.asz
    adf := by rw [put_defers]; exact I.adf }
end

end Go.Eng
