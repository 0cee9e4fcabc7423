/- One operation of a region whose order is drawn. -/
import Derived.Test.YtiflkdemlhpibaaDoorEnhO
set_option linter.unusedVariables false
namespace Go.Eng
open Go

section
variable {P : Program} {gl : Bool} {C : CallF} {N : Nat} {all : List Oper} {e : Nat → Env} {h : Nat → Heap} {v : Nat → Value} {m0 : Mp} {w0 : World} {df : List Deferred} {D : Nat → Prop} {nx : Nat} {env : Env} {a : Act} {m : Mp} {V : Heap} {w : World}

/-- Memory as the text's run has it between the calls. -/
theorem Inv.heap (X : Ctx P C N all e h v) (I : Inv P N all e h m0 w0 df D nx env a m V w) : HRel (restr m (h nx).n) (h nx) w := by
  have hlow := X.lowN I.nxle
  have key : ∀ b blk p, (h nx).get b = some blk → restr m (h nx).n b = some p → b < (h nx).n ∧ m b = some p ∧ V.get b = some blk := fun b blk p hb hp => by
    have hlt := hlow b blk hb
    have hp' := restr_le _ _ b p hp
    exact ⟨hlt, hp', (I.c1 b p hp' hlt).trans hb⟩
  refine ⟨hlow, ?_, ?_, I.one, ?_⟩
  · intro b blk p hb hp
    obtain ⟨k1, k2, k3⟩ := key b blk p hb hp
    exact (I.rel.blk b blk p k3 k2).restr (I.l1 nx (Nat.le_refl _) b p blk k2 k1 hb)
  · intro b b' blk blk' p p' hne hb ho hb' hp hp'
    obtain ⟨_, k2, k3⟩ := key b blk p hb hp
    obtain ⟨_, l2, l3⟩ := key b' blk' p' hb' hp'
    exact I.rel.inj b b' blk blk' p p' hne k3 ho l3 k2 l2
  · intro b blk p hb ho hp
    obtain ⟨_, k2, k3⟩ := key b blk p hb hp
    exact I.rel.froz b blk p k3 ho k2

/-- What the ready operation waits for is done; what is done does not wait for it. -/
theorem Inv.waits (X : Ctx P C N all e h v) (I : Inv P N all e h m0 w0 df D nx env a m V w) {i : Nat} {o : Oper} (ho : all[i]? = some o) (hi : ¬ D i) (hrdy : ∀ x ∈ o.after, Region.binds .any x = true → D x.on) :
    (∀ j, ((befs all []).getD i 0).testBit j = true → D j ∧ j < i) ∧ (∀ j q, all[j]? = some q → D j → ((befs all []).getD j 0).testBit i = false) :=
  ⟨fun j hj => ⟨bef_done X.parts.2.1 I.cl i j ho hrdy hj, bef_lt X.parts.2.1 i j ho hj⟩, fun j q hq hD => by
    cases hb : ((befs all []).getD j 0).testBit i with
    | false => rfl
    | true => exact absurd (bef_done X.parts.2.1 I.cl j i hq (I.cl j q hq hD) hb) hi⟩

/-- What the ready operation looks at is what the text's run shows it. -/
theorem Inv.looks (X : Ctx P C N all e h v) (I : Inv P N all e h m0 w0 df D nx env a m V w) {i : Nat} {o : Oper} (ho : all[i]? = some o) (hi : ¬ D i) (hrdy : ∀ x ∈ o.after, Region.binds .any x = true → D x.on) {t : Tmp} (ht : t ∈ names all o) :
    env t = e i t ∧ VRel (restr m (h i).n) (env t) (a.tmps.getD t undef) := by
  refine I.en i o t ho hi ht fun k q hk hq hd => ?_
  have hW := I.waits X ho hi hrdy
  have := X.parts.2.2.2.2 k i q o t hq ho (by omega) hd ht
  simp only [ordered, Bool.or_eq_true] at this
  rcases this with h1 | h1
  · exact (hW.1 k h1).1
  · have := bef_lt X.parts.2.1 k i hq h1; omega

/-- The temporaries behind the operation. -/
theorem Inv.temps (X : Ctx P C N all e h v) (I : Inv P N all e h m0 w0 df D nx env a m V w) {i : Nat} {o : Oper} (ho : all[i]? = some o) (hi : ¬ D i) (hrdy : ∀ x ∈ o.after, Region.binds .any x = true → D x.on)
    {m' : Mp} {v' : Value} (hm : MLe m m') (hv : VRel (restr m' (h (i + 1)).n) (v i) v') :
    (∀ j q t, all[j]? = some q → ¬ (D j ∨ j = i) → t ∈ names all q → (∀ k r, k < j → all[k]? = some r → r.dst = some t → D k ∨ k = i) → putE N env o.dst (v i) t = e j t ∧ VRel (restr m' (h j).n) (putE N env o.dst (v i) t) ((a.put o.dst v').tmps.getD t undef)) ∧
    (∀ t, (∀ k r, all[k]? = some r → r.dst = some t → D k ∨ k = i) → putE N env o.dst (v i) t = e all.length t ∧ VRel m' (putE N env o.dst (v i) t) ((a.put o.dst v').tmps.getD t undef)) := by
  have hil : i < all.length := (List.getElem?_eq_some_iff.1 ho).1
  have hW := I.waits X ho hi hrdy
  -- the temporary that is written
  have mine : ∀ t, o.dst = some t → putE N env o.dst (v i) t = v i ∧ (a.put o.dst v').tmps.getD t undef = v' := fun t hd => by
    have hN := X.parts.1 i o t ho hd
    refine ⟨by simp [putE, hd, hN], ?_⟩
    simp [Act.put, hd, Array.getD_eq_getD_getElem?, I.asz, hN]
  have other : ∀ t, o.dst ≠ some t → putE N env o.dst (v i) t = env t ∧ (a.put o.dst v').tmps.getD t undef = a.tmps.getD t undef := fun t hd => by
    cases hdd : o.dst with
    | none => exact ⟨rfl, rfl⟩
    | some d =>
      have hne : t ≠ d := fun he => hd (by rw [hdd, he])
      have hN := X.parts.1 i o d ho hdd
      refine ⟨by simp [putE, hN, hne], ?_⟩
      simp [Act.put, Array.getD_eq_getD_getElem?, Array.getElem?_setIfInBounds_ne (Ne.symm hne)]
  -- nobody that is done writes it behind
  have last : ∀ t k r, o.dst = some t → all[k]? = some r → r.dst = some t → D k → k < i := fun t k r hd hk hr hDk => by
    have hne : i ≠ k := fun he => hi (he ▸ hDk)
    have := X.parts.2.2.2.2 i k o r t ho hk hne hd (by simp [names, hr])
    simp only [ordered, Bool.or_eq_true] at this
    rcases this with h1 | h1
    · rw [hW.2 k r hk hDk] at h1; cases h1
    · exact (hW.1 k h1).2
  refine ⟨?_, ?_⟩
  · intro j q t hq hnd ht hall
    have hjl : j < all.length := (List.getElem?_eq_some_iff.1 hq).1
    have hnD : ¬ D j := fun hd => hnd (.inl hd)
    have hne : i ≠ j := fun he => hnd (.inr he.symm)
    by_cases hd : o.dst = some t
    · have := X.parts.2.2.2.2 i j o q t ho hq hne hd ht
      simp only [ordered, Bool.or_eq_true] at this
      have hlt : i < j := by
        rcases this with h1 | h1
        · exact bef_lt X.parts.2.1 j i hq h1
        · exact absurd (hW.1 j h1).1 hnD
      rw [(mine t hd).1, (mine t hd).2]
      have he : e j t = e (i + 1) t := X.envStay (by omega) (by omega) fun k r h1 h2 hk hr => by
        rcases hall k r h2 hk hr with h3 | h3
        · have := last t k r hd hk hr h3; omega
        · omega
      exact ⟨by rw [he, X.envPut hil ho hd], hv.mono (restr_mono (MLe.refl _) (X.monoN (by omega) (by omega)).1)⟩
    · rw [(other t hd).1, (other t hd).2]
      obtain ⟨g1, g2⟩ := I.en j q t hq hnD ht fun k r h1 hk hr => (hall k r h1 hk hr).resolve_right fun he => hd (by rw [he] at hk; rw [ho] at hk; cases hk; exact hr)
      exact ⟨g1, g2.mono (restr_mono hm (Nat.le_refl _))⟩
  · intro t hall
    by_cases hd : o.dst = some t
    · rw [(mine t hd).1, (mine t hd).2]
      have he : e all.length t = e (i + 1) t := X.envStay (by omega) (Nat.le_refl _) fun k r h1 h2 hk hr => by
        rcases hall k r hk hr with h3 | h3
        · have := last t k r hd hk hr h3; omega
        · omega
      exact ⟨by rw [he, X.envPut hil ho hd], hv.mono (restr_le _ _)⟩
    · rw [(other t hd).1, (other t hd).2]
      obtain ⟨g1, g2⟩ := I.enF t fun k r hk hr => (hall k r hk hr).resolve_right fun he => hd (by rw [he] at hk; rw [ho] at hk; cases hk; exact hr)
      exact ⟨g1, g2.mono hm⟩

/-- Between two heaps of the text's run each block was made by one operation. -/
theorem Ctx.maker (X : Ctx P C N all e h v) {i j b : Nat} (hi : i < all.length) (hj : j < all.length) (h1 : (h i).n ≤ b) (h2 : b < (h (i + 1)).n) (h3 : (h j).n ≤ b) (h4 : b < (h (j + 1)).n) : i = j := by
  rcases Nat.lt_trichotomy i j with hlt | he | hlt
  · have := (X.monoN (show i + 1 ≤ j by omega) (by omega)).1; omega
  · exact he
  · have := (X.monoN (show j + 1 ≤ i by omega) (by omega)).1; omega
theorem Inv.gap (X : Ctx P C N all e h v) (I : Inv P N all e h m0 w0 df D nx env a m V w) {i : Nat} (hi : i < all.length) (hn : ¬ D i) {b : Nat} (h1 : (h i).n ≤ b) (h2 : b < (h (i + 1)).n) : m b = none := by
  cases hb : m b with
  | none => rfl
  | some p =>
    have h0 := (X.monoN (Nat.zero_le i) (by omega)).1
    rcases I.mp b p hb with h3 | ⟨j, hD, hj, h3, h4⟩
    · omega
    · have := X.maker hi hj h1 h2 h3 h4
      exact absurd (this ▸ hD) hn

/-- The place of the calls is just ahead of a ready call. -/
theorem Inv.atAct (X : Ctx P C N all e h v) (I : Inv P N all e h m0 w0 df D nx env a m V w) {i : Nat} {o : Oper} (ho : all[i]? = some o) (hi : ¬ D i) (hrdy : ∀ x ∈ o.after, Region.binds .any x = true → D x.on) (hk : kindOf P o.op = .act) :
    Inv P N all e h m0 w0 df D i env a m V w ∧ ∀ j q, all[j]? = some q → kindOf P q.op = .act → i + 1 ≤ j → ¬ D j := by
  have hil : i < all.length := (List.getElem?_eq_some_iff.1 ho).1
  have hW := I.waits X ho hi hrdy
  have before : ∀ j q, all[j]? = some q → kindOf P q.op = .act → j < i → D j := fun j q hq hkq hlt => by
    have := X.parts.2.2.2.1 j i q o hq ho (by omega) hkq hk
    simp only [ordered, Bool.or_eq_true] at this
    rcases this with h1 | h1
    · exact (hW.1 j h1).1
    · have := bef_lt X.parts.2.1 j i hq h1; omega
  have behind : ∀ j q, all[j]? = some q → kindOf P q.op = .act → i < j → ¬ D j := fun j q hq hkq hlt hD => by
    have := X.parts.2.2.2.1 i j o q ho hq (by omega) hk hkq
    simp only [ordered, Bool.or_eq_true] at this
    rcases this with h1 | h1
    · rw [hW.2 j q hq hD] at h1; cases h1
    · have := (hW.1 j h1).2; omega
  have hle : nx ≤ i := by
    rcases Nat.lt_or_ge i nx with h1 | h1
    · exact absurd (I.ahead i o ho hk h1) hi
    · exact h1
  refine ⟨I.move X hle (by omega) (fun j q h1 h2 hq hc => ?_) before (fun j q hq hkq h1 => ?_), behind⟩
  · exact absurd (before j q hq hc.1 h2) (I.behind j q hq hc.1 h1)
  · rcases Nat.eq_or_lt_of_le h1 with rfl | h1
    · exact hi
    · exact behind j q hq hkq h1
end

end Go.Eng
