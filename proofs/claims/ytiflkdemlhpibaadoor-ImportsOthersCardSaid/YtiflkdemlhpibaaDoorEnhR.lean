/- Each order of a drawn region comes to what the text's order comes to. -/
import Derived.Test.YtiflkdemlhpibaaDoorEnhQ
import Derived.Scope
import Derived.Test.YtiflkdemlhpibaaDoorEnhI
set_option linter.unusedVariables false
namespace Go.Eng
open Go

theorem ldC_loc {n : Nat} {x v : Value} {H H' : Heap} (h : ldC x H = some (v, H')) (hl : ∀ b, blkOf x = some b → ∀ blk, H.get b = some blk → ∀ (j : Nat) y, blk.cells[j]? = some y → Loc n y) : Loc n v := by
  unfold ldC at h
  split at h
  · rename_i b o
    split at h
    · rename_i blk hb
      split at h
      · rename_i v' hc
        simp only [Option.some.injEq, Prod.mk.injEq] at h
        obtain ⟨rfl, rfl⟩ := h
        exact hl b rfl blk hb _ _ hc
      · cases h
    · cases h
  · cases h
theorem ldA_loc {n k : Nat} {x v : Value} {H H' : Heap} (h : ldA k x H = some (v, H')) (hl : ∀ b, blkOf x = some b → ∀ blk, H.get b = some blk → ∀ (j : Nat) y, blk.cells[j]? = some y → Loc n y) : Loc n v := by
  unfold ldA at h
  split at h
  · rename_i b o
    split at h
    · rename_i blk hb
      split at h
      · simp only [Option.some.injEq, Prod.mk.injEq] at h
        obtain ⟨rfl, rfl⟩ := h
        refine .agg fun i y hy => ?_
        simp only [cut] at hy
        rw [List.getElem?_take] at hy
        split at hy
        · rw [List.getElem?_drop] at hy
          exact hl b rfl blk hb _ _ hy
        · cases hy
      · cases h
    · cases h
  · cases h
theorem toStr_loc {n : Nat} {x v : Value} {H H' : Heap} (h : toStr x H = some (v, H')) : Loc n v := by
  unfold toStr at h
  split at h
  · simp only [Option.some.injEq, Prod.mk.injEq] at h; obtain ⟨rfl, _⟩ := h; exact .flat rfl
  · split at h
    · simp only [Option.some.injEq, Prod.mk.injEq] at h; obtain ⟨rfl, _⟩ := h; exact .flat rfl
    split at h
    · split at h
      · split at h
        · simp only [Option.some.injEq, Prod.mk.injEq] at h; obtain ⟨rfl, _⟩ := h; exact .flat rfl
        · cases h
      · cases h
    · cases h
  · cases h
theorem kind_read_loc {P : Program} {C : CallF} {env : Env} {o : Op} {H H' : Heap} {v : Value} {n : Nat} (hk : kindOf P o = .read) (h : aop P C env o H = some (v, H'))
    (hl : ∀ b, readBlk env o = some b → ∀ blk, H.get b = some blk → ∀ (j : Nat) y, blk.cells[j]? = some y → Loc n y) : Loc n v := by
  cases o <;> simp only [kindOf] at hk <;> first | (cases hk; done) | skip
  case load t x =>
    simp only [aop] at h
    split at h
    · exact ldA_loc h hl
    · exact ldC_loc h hl
    · cases h
  case convert s d x =>
    simp only [aop] at h
    cases hc : cnvOf P s d <;> simp only [hc] at hk h <;> first | (cases hk; done) | skip
    simp only [cnv] at h
    exact toStr_loc h
  case call c =>
    obtain ⟨callee, args, argTypes⟩ := c
    cases callee with
    | value f => exact nomatch (show OKind.act = OKind.read from hk)
    | invoke r n => exact nomatch (show OKind.act = OKind.read from hk)
    | builtin b =>
      cases b <;> first
        | exact nomatch (show OKind.act = OKind.read from hk)
        | exact nomatch (show OKind.pure = OKind.read from hk)
        | (simp only [kindOf] at hk; rcases kite hk with h1 | h1 <;> cases h1)

theorem readBlk_congr {env env' : Env} {o : Op} (h : ∀ x ∈ o.operands, ev env x = ev env' x) : readBlk env o = readBlk env' o := by
  cases o <;> first | rfl | skip
  case load t x => simp only [readBlk]; rw [h x (by simp [Op.operands])]
  case convert s d x => simp only [readBlk]; rw [h x (by simp [Op.operands])]

/-- The block that an address tells of lies somewhere. -/
theorem VRel.blkOf {m : Mp} {v v' : Value} (h : VRel m v v') {b : Nat} (hb : Eng.blkOf v = some b) : ∃ p, m b = some p := by
  cases h with
  | flat hf =>
    cases v with
    | pointer o => cases o with
      | none => simp [Eng.blkOf] at hb
      | some o => simp [flat1] at hf
    | slice o n c => cases o with
      | none => simp [Eng.blkOf] at hb
      | some o => simp [flat1] at hf
    | _ => simp [Eng.blkOf] at hb
  | ptr h => simp [Eng.blkOf] at hb; subst hb; exact ⟨_, h⟩
  | slc h => simp [Eng.blkOf] at hb; subst hb; exact ⟨_, h⟩
  | slx h => simp [Eng.blkOf] at hb; subst hb; exact ⟨_, h⟩
  | sl0 h => simp [Eng.blkOf] at hb; subst hb; exact ⟨_, h⟩
  | mapv => simp [Eng.blkOf] at hb
  | func => simp [Eng.blkOf] at hb
  | agg => simp [Eng.blkOf] at hb
  | tuple => simp [Eng.blkOf] at hb

section
variable {P : Program} {gl : Bool} {C : CallF} {N : Nat} {all : List Oper} {e : Nat → Env} {h : Nat → Heap} {v : Nat → Value} {m0 : Mp} {w0 : World} {df : List Deferred} {D : Nat → Prop} {nx : Nat} {env : Env} {a : Act} {m : Mp} {V : Heap} {w : World}

/-- What a ready operation reads is what it read in the text's run. -/
theorem Inv.sees (X : Ctx P C N all e h v) (I : Inv P N all e h m0 w0 df D nx env a m V w) {i : Nat} {o : Oper} (ho : all[i]? = some o) (hi : ¬ D i) (hrdy : ∀ x ∈ o.after, Region.binds .any x = true → D x.on)
    (hk : kindOf P o.op = .read) (hw : wantedE all o (e i) = true) {b : Nat} {p : Pl} (hb : readBlk (e i) o.op = some b) (hp : m b = some p) (hbn : b < (h i).n) :
    V.get b = (h i).get b ∧ ∀ blk, (h i).get b = some blk → ∀ (j : Nat) y, blk.cells[j]? = some y → Loc (h i).n y := by
  have hil : i < all.length := (List.getElem?_eq_some_iff.1 ho).1
  have hW := I.waits X ho hi hrdy
  have hnx := I.nxle
  rcases Nat.lt_or_ge nx i with hlt | hle
  · -- calls that stand ahead are still to come: none of them changes it
    have hch : ∀ j q, nx ≤ j → j < i → all[j]? = some q → kindOf P q.op = .act → wantedE all q (e j) = true → b < (h j).n → (h (j + 1)).get b = (h j).get b := fun j q h1 h2 hq hkq hwq hbj => by
      have hc := X.T.read j i q o (Nat.zero_le _) h2 (by omega) hq ho hwq hw hkq hk
      rw [hb] at hc
      rcases hc with hc | hc
      · simp only [ordered, Bool.or_eq_true] at hc
        rcases hc with hc | hc
        · exact absurd (hW.1 j hc).1 (I.behind j q hq hkq h1)
        · have := bef_lt X.parts.2.1 j i hq hc; omega
      · exact sameBlk_eq hc hbj
    by_cases hbx : b < (h nx).n
    · have hs : (h i).get b = (h nx).get b := X.stable (by omega) (by omega) hbx fun j q h1 h2 hq hkq hwq => hch j q h1 h2 hq hkq hwq (Nat.lt_of_lt_of_le hbx (X.monoN h1 (by omega)).1)
      refine ⟨by rw [I.c1 b p hp hbx, hs], fun blk hbk j y hy => ?_⟩
      rw [hs] at hbk
      exact (I.l1 nx (Nat.le_refl _) b p blk hp hbx hbk j y (Blk.vals_cells hy)).mono (X.monoN (by omega) (by omega)).1
    · have mk : ∃ k, nx ≤ k ∧ k < i ∧ (h k).n ≤ b ∧ b < (h (k + 1)).n := by
        have key : ∀ d, nx + d ≤ i → b < (h (nx + d)).n → ∃ k, nx ≤ k ∧ k < i ∧ (h k).n ≤ b ∧ b < (h (k + 1)).n := by
          intro d
          induction d with
          | zero => intro _ hb; simp only [Nat.add_zero] at hb; omega
          | succ d ih =>
            intro hd hb
            by_cases hc : b < (h (nx + d)).n
            · exact ih (by omega) hc
            · exact ⟨nx + d, by omega, by omega, by omega, hb⟩
        exact key (i - nx) (by omega) (by rw [Nat.add_sub_cancel' (by omega)]; exact hbn)
      obtain ⟨k, k1, k2, k3, k4⟩ := mk
      have hs : (h i).get b = (h (k + 1)).get b := X.stable (by omega) (by omega) k4 fun j q h1 h2 hq hkq hwq => hch j q (by omega) h2 hq hkq hwq (Nat.lt_of_lt_of_le k4 (X.monoN h1 (by omega)).1)
      have hc2 := I.c2 b p hp (by omega) k (by omega) k3 k4
      refine ⟨by rw [hc2, hs], fun blk hbk j y hy => ?_⟩
      rw [hs, ← hc2] at hbk
      exact (I.l2 b p blk hp (by omega) hbk k (by omega) k3 k4 j y (Blk.vals_cells hy)).mono (X.monoN (by omega) (by omega)).1
  · -- calls that stand behind are done: none of them has changed it
    have hs : (h nx).get b = (h i).get b := X.stable hle hnx hbn fun j q h1 h2 hq hkq hwq => by
      have hne : i ≠ j := fun he => by subst he; rw [ho] at hq; cases hq; rw [hk] at hkq; cases hkq
      have hc := X.T.act i j o q (readBlk (e i) o.op) (Nat.zero_le _) (by omega) (by omega) ho hq hw hwq (by simp [touch, hk]) hkq
      rw [hb] at hc
      rcases hc with hc | hc
      · simp only [ordered, Bool.or_eq_true] at hc
        rcases hc with hc | hc
        · rw [hW.2 j q hq (I.ahead j q hq hkq h2)] at hc; cases hc
        · have := (hW.1 j hc).2; omega
      · exact sameBlk_eq hc (Nat.lt_of_lt_of_le hbn (X.monoN (by omega) (by omega)).1)
    exact ⟨by rw [I.c1 b p hp (Nat.lt_of_lt_of_le hbn (X.monoN hle hnx).1), hs], fun blk hbk j y hy => I.l1 i hle b p blk hp hbn hbk j y (Blk.vals_cells hy)⟩

/-- A ready operation is carried out. -/
theorem Inv.exec (X : Ctx P C N all e h v) (hC : CSound P gl C) (hg : GOK P gl m0) (hl0 : MLow m0 (h 0).n) (I : Inv P N all e h m0 w0 df D nx env a m V w) {i : Nat} {o : Oper} (ho : all[i]? = some o) (hi : ¬ D i) (hrdy : ∀ x ∈ o.after, Region.binds .any x = true → D x.on)
    (hok : o.op.operands.toList.all (okOpd P gl) = true) {Q : Exit → Act → World → Prop} {K : Act → World → Prop}
    (hK : ∀ nx' env' a' m' V' w', Inv P N all e h m0 w0 df (fun j => D j ∨ j = i) nx' env' a' m' V' w' → K a' w') : wpOp P all.toArray Q i K a w := by
  have hil : i < all.length := (List.getElem?_eq_some_iff.1 ho).1
  have h0i := (X.monoN (Nat.zero_le i) (by omega)).1
  have hoA : all.toArray[i]? = some o := by simpa using ho
  have hlooks : ∀ t, t ∈ o.looksAt all.toArray → env t = e i t ∧ VRel (restr m (h i).n) (env t) (a.tmps.getD t undef) := fun t ht => I.looks X ho hi hrdy (by simp [names, ht])
  have hopT : ∀ t, Operand.tmp t ∈ o.op.operands → t ∈ o.looksAt all.toArray := fun t ht => by
    unfold Oper.looksAt
    rw [List.mem_append]; left
    rw [List.mem_filterMap]
    exact ⟨.tmp t, by simpa using ht, rfl⟩
  have hgT : ∀ j want d, o.guard = some (j, want) → (all[j]?).bind (·.dst) = some d → d ∈ o.looksAt all.toArray := fun j want d hgd hd => by
    unfold Oper.looksAt
    rw [List.mem_append]; right
    rw [hgd]
    simp [hd]
  have hwant : Region.wanted o (yielded all.toArray a.tmps) = wantedE all o (e i) := by
    rw [wanted_sound' (m := restr m (h i).n) (env := env) all o (fun j want d hgd hd => (hlooks d (hgT j want d hgd hd)).2)]
    unfold wantedE
    cases hgd : o.guard with
    | none => rfl
    | some g =>
      obtain ⟨j, want⟩ := g
      simp only
      cases hd : (all[j]?).bind (·.dst) with
      | none => rfl
      | some d => simp only; rw [(hlooks d (hgT j want d hgd hd)).1]
  have hev : ∀ x ∈ o.op.operands, ev (e i) x = ev env x := fun x hx => by
    cases x with
    | tmp t => exact ((hlooks t (hopT t hx)).1).symm
    | _ => rfl
  have hgr : GOK P gl (restr m (h i).n) := fun hgl g hlt => by
    have h1 := hg hgl g hlt
    have h2 := hl0 g _ h1
    unfold restr
    rw [if_pos (by omega), I.x g h2]; exact h1
  have hVR : ∀ x ∈ o.op.operands, VRel (restr m (h i).n) (ev (e i) x) (a.eval x) := fun x hx => by
    cases x with
    | tmp t => rw [hev _ hx]; exact (hlooks t (hopT t hx)).2
    | const c => exact VRel.ofFlat (v := c) (by rw [List.all_eq_true] at hok; simpa [okOpd] using hok _ (by simpa using hx))
    | global g =>
      rw [List.all_eq_true] at hok
      have := hok (.global g) (by simpa using hx)
      exact ev_sound (env := fun _ => undef) (a := { tmps := #[], defers := [] }) (fun t => by simpa using VRel.undef) hgr this
    | func f =>
      exact ev_sound (P := P) (gl := gl) (env := fun _ => undef) (a := { tmps := #[], defers := [] }) (fun t => by simpa using VRel.undef) hgr (x := .func f) rfl
  unfold wpOp
  rw [hoA]
  simp only
  rw [hwant]
  by_cases hw : wantedE all o (e i) = true
  · rw [if_pos hw]
    left
    have hy := X.T.yes i o (Nat.zero_le _) hil ho hw
    have hmle : MLe (restr m (h i).n) m := restr_le _ _
    cases hk : kindOf P o.op with
    | act =>
      obtain ⟨J, _⟩ := I.atAct X ho hi hrdy hk
      refine Oper.wp_mono (K := fun a' w' => ∃ m' v', a' = a.put o.dst v' ∧ VRel m' (v i) v' ∧ Step (restr m (h i).n) (h i) w m' (h (i + 1)) w') (fun a' w' ⟨m', v', ha, hv, hS⟩ => ?_) (aop_sound' hC hgr hVR (J.heap X) (restr_low _ _) hy)
      subst ha
      obtain ⟨m2, V2, I2⟩ := I.act X ho hi hrdy hk hv hS
      exact hK _ _ _ _ _ _ I2
    | make =>
      obtain ⟨blk, hp, ho1, hH⟩ := kind_make hk hy
      have hrel : HRel (restr m (h i).n) ⟨(h i).n, fun _ => none⟩ w := ⟨fun b k hb => (by cases hb), fun b k p hb => (by cases hb), fun b b' k k' p p' _ hb => (by cases hb), fun b k hb => (by cases hb), fun b k p hb => (by cases hb)⟩
      have hy2 := hH ⟨(h i).n, fun _ => none⟩ rfl
      refine Oper.wp_mono (K := fun a' w' => ∃ m' v', a' = a.put o.dst v' ∧ VRel m' (v i) v' ∧ Step (restr m (h i).n) ⟨(h i).n, fun _ => none⟩ w m' (Heap.push ⟨(h i).n, fun _ => none⟩ blk) w') (fun a' w' ⟨m', v', ha, hv, hS⟩ => ?_) (aop_sound' hC hgr hVR hrel (restr_low _ _) hy2)
      subst ha
      obtain ⟨m2, V2, I2⟩ := I.make X ho hi hrdy hk hw hp hv hS
      exact hK _ _ _ _ _ _ I2
    | pure =>
      obtain ⟨hh, hH⟩ := kind_pure hk hy
      have hrel : HRel (restr m (h i).n) ⟨(h i).n, fun _ => none⟩ w := ⟨fun b k hb => (by cases hb), fun b k p hb => (by cases hb), fun b b' k k' p p' _ hb => (by cases hb), fun b k hb => (by cases hb), fun b k p hb => (by cases hb)⟩
      have hy2 := hH ⟨(h i).n, fun _ => none⟩
      have hyV := hH V
      have hgm : GOK P gl m := hgr.mono hmle
      -- both at once: where its answer lies, and that memory stays
      have hA := aop_sound' (Q := Q) hC hgr hVR hrel (restr_low _ _) hy2
      refine Oper.wp_mono (K := fun a' w' => ∃ m' v', a' = a.put o.dst v' ∧ VRel m' (v i) v' ∧ Step (restr m (h i).n) ⟨(h i).n, fun _ => none⟩ w m' ⟨(h i).n, fun _ => none⟩ w') (fun a' w' ⟨m', v', ha, hv, hS⟩ => ?_) hA
      subst ha
      have hlow' := hS.keepLow (restr_low _ _)
      have hm' : m' = restr m (h i).n := by
        funext b
        by_cases hb : b < (h i).n
        · exact hS.ext b hb
        · have h1 : m' b = none := by
            cases hx : m' b with
            | none => rfl
            | some p => exact absurd (hlow' b p hx) hb
          have h2 : restr m (h i).n b = none := by unfold restr; rw [if_neg hb]
          rw [h1, h2]
      subst hm'
      have hfr : ∀ c, c < w.heap.size → w'.heap[c]? = w.heap[c]? := fun c hc => hS.frame c hc fun b k p hb => (by cases hb)
      have SV : Step m V w m V w' := by
        refine ⟨fun _ _ => rfl, Nat.le_refl _, ⟨I.rel.low, fun b k p hb hp => ?_, I.rel.inj, I.rel.one, I.rel.froz⟩, hS.size, fun c hc _ => hfr c hc, fun b k p h1 h2 h3 _ => ⟨b, k, p, h1, h2, h3, rfl⟩, hS.os, hS.tape, hS.output, fun _ _ _ q _ => q, fun _ _ _ q _ => q, id, fun b k h1 h2 => by have := I.rel.low b k h2; omega⟩
        exact (I.rel.blk b k p hb hp).at (hfr _ (I.rel.blk b k p hb hp).lt)
      exact hK _ _ _ _ _ _ (I.look X ho hi hrdy (by rw [hk]; exact fun q => nomatch q) hh (hv.loc (restr_low _ _)) (hv.mono hmle) SV)
    | read =>
      obtain ⟨hh, hex, hH⟩ := kind_read hk hy
      have hread : ∀ b, readBlk (e i) o.op = some b → ∃ p, restr m (h i).n b = some p := fun b hb => by
        have : ∃ x ∈ o.op.operands, blkOf (ev (e i) x) = some b := by
          revert hb hk
          cases o.op <;> intro hk hb <;> first
            | (simp [readBlk] at hb; done)
            | (rename_i t x; exact ⟨x, by simp [Op.operands], hb⟩)
            | (rename_i s d x; exact ⟨x, by simp [Op.operands], hb⟩)
        obtain ⟨x, hx, hbx⟩ := this
        exact (hVR x hx).blkOf hbx
      have hsee : ∀ b, readBlk (e i) o.op = some b → V.get b = (h i).get b ∧ ∀ blk, (h i).get b = some blk → ∀ (j : Nat) y, blk.cells[j]? = some y → Loc (h i).n y := fun b hb => by
        obtain ⟨p, hp⟩ := hread b hb
        exact I.sees X ho hi hrdy hk hw hb (restr_le _ _ b p hp) (restr_low _ _ b p hp)
      have hL : Loc (h i).n (v i) := kind_read_loc hk hy fun b hb => (hsee b hb).2
      have hyV := hH V fun b hb => (hsee b hb).1
      have hgm : GOK P gl m := hgr.mono hmle
      refine Oper.wp_mono (K := fun a' w' => ∃ m' v', a' = a.put o.dst v' ∧ VRel m' (v i) v' ∧ Step m V w m' V w') (fun a' w' ⟨m', v', ha, hv, hS⟩ => ?_) (aop_sound' hC hgm (fun x hx => (hVR x hx).mono hmle) I.rel I.ml hyV)
      subst ha
      exact hK _ _ _ _ _ _ (I.look X ho hi hrdy (by rw [hk]; exact fun q => nomatch q) hh hL hv hS)
  · rw [if_neg hw]
    obtain ⟨nx', I2⟩ := I.skip X ho hi hrdy (by simpa using hw)
    exact hK _ _ _ _ _ _ I2

/-- All are done. -/
theorem Inv.done (X : Ctx P C N all e h v) (I : Inv P N all e h m0 w0 df D nx env a m V w) (hall : ∀ i, i < all.length → D i) (hl0 : MLow m0 (h 0).n) :
    Inv P N all e h m0 w0 df D all.length env a m V w := by
  refine I.move X I.nxle (Nat.le_refl _) (fun i o h1 h2 hq hc => I.behind i o hq hc.1 h1 (hall i h2)) (fun i o hq hkq hlt => hall i hlt) (fun i o hq hkq hle => ?_)
  have := (List.getElem?_eq_some_iff.1 hq).1
  omega
theorem Inv.last (X : Ctx P C N all e h v) (I : Inv P N all e h m0 w0 df D nx env a m V w) (hall : ∀ i, i < all.length → D i) (hl0 : MLow m0 (h 0).n) :
    ERel m (e all.length) a ∧ Step m0 (h 0) w0 m (h all.length) w := by
  have J := I.done X hall hl0
  have hE : ERel m (e all.length) a := fun t => by
    obtain ⟨q1, q2⟩ := J.enF t fun k q hk _ => hall k (List.getElem?_eq_some_iff.1 hk).1
    rw [← q1]; exact q2
  have hml : MLow m (h all.length).n := fun b p hp => by
    rcases J.mp b p hp with q | ⟨i, _, q2, q3, q4⟩
    · exact Nat.lt_of_lt_of_le q (X.monoN (Nat.zero_le _) (Nat.le_refl _)).1
    · exact Nat.lt_of_lt_of_le q4 (X.monoN (by omega) (Nat.le_refl _)).1
  have hrel := J.heap X
  rw [restr_of_low hml] at hrel
  have h0n := (X.monoN (Nat.zero_le all.length) (Nat.le_refl _)).1
  refine ⟨hE, ⟨J.x, h0n, hrel, J.size, J.frame, ?_, J.os, J.tape, J.output, fun b blk hb hg hof => (J.fz b blk hb hof).1 hg, fun b blk hb hg hof => (J.fz b blk hb hof).2 hg, fun _ => hml, J.fr⟩⟩
  intro b blk p hb hof hp hlt
  have hbn := X.lowN (Nat.le_refl _) b blk hb
  exact J.own b blk p ((J.c1 b p hp hbn).trans hb) hof hp hlt
end

theorem count_set {l : Array Bool} {i : Nat} (h : l.getD i true = false) : ((l.setIfInBounds i true).toList.count false) + 1 = l.toList.count false := by
  have hi : i < l.size := by
    rcases Nat.lt_or_ge i l.size with h1 | h1
    · exact h1
    · simp [Array.getD_eq_getD_getElem?, h1] at h
  have hv : l.toList[i] = false := by simpa [Array.getD_eq_getD_getElem?, hi] using h
  have : (l.setIfInBounds i true).toList = l.toList.set i true := by simp
  rw [this, List.count_set (by simpa using hi)]
  have hpos : 0 < l.toList.count false := List.count_pos_iff.2 (hv ▸ List.getElem_mem _)
  have e1 : (l.toList[i] == false) = true := by rw [hv]; rfl
  have e2 : ((true : Bool) == false) = false := rfl
  rw [if_pos e1, e2]
  simp only [Bool.false_eq_true, if_false]
  omega

section
variable {P : Program} {gl : Bool} {C : CallF} {N : Nat} {Q : Exit → Act → World → Prop}
theorem any_sound {all : List Oper} {e : Nat → Env} {h : Nat → Heap} {v : Nat → Value} {m0 : Mp} {w0 : World} {df : List Deferred} (X : Ctx P C N all e h v) (hC : CSound P gl C) (hg : GOK P gl m0) (hl0 : MLow m0 (h 0).n)
    (hok : (all.all fun o => o.op.operands.toList.all (okOpd P gl)) = true) (hq : ∀ m' a' w', ERel m' (e all.length) a' → Step m0 (h 0) w0 m' (h all.length) w' → a'.tmps.size = N → a'.defers = df → Q .normal a' w') :
    ∀ (fuel : Nat) (listed : Array Bool), listed.size = all.length → listed.toList.count false ≤ fuel → ∀ (nx : Nat) (env : Env) (a : Act) (m : Mp) (V : Heap) (w : World),
      Inv P N all e h m0 w0 df (fun j => listed.getD j false = true) nx env a m V w → wpAny P .any all.toArray Q fuel listed a w := by
  have fin : ∀ (listed : Array Bool), listed.size = all.length → ∀ (nx : Nat) (env : Env) (a : Act) (m : Mp) (V : Heap) (w : World), Inv P N all e h m0 w0 df (fun j => listed.getD j false = true) nx env a m V w →
      Region.ready .any all.toArray listed = [] → Q .normal a w := fun listed hsz nx env a m V w I hr => by
    have hall : ∀ i, i < all.length → listed.getD i false = true := by
      intro i
      induction i using Nat.strongRecOn with
      | _ i ih =>
        intro hi
        cases hb : listed.getD i false with
        | true => rfl
        | false =>
          have hmem : i ∈ Region.ready .any all.toArray listed := by
            rw [mem_ready]
            refine ⟨?_, all[i], by simp [hi], fun x hx hbx => ih x.on (X.parts.2.1 i _ (List.getElem?_eq_getElem hi) x hx hbx) ?_⟩
            · have : i < listed.size := by omega
              simp [Array.getD_eq_getD_getElem?, this] at hb ⊢
              exact hb
            · have := X.parts.2.1 i _ (List.getElem?_eq_getElem hi) x hx hbx; omega
          rw [hr] at hmem; cases hmem
    obtain ⟨q1, q2⟩ := I.last X hall hl0
    exact hq m a w q1 q2 I.asz I.adf
  intro fuel
  induction fuel with
  | zero =>
    intro listed hsz hcnt nx env a m V w I
    have hr : Region.ready .any all.toArray listed = [] := by
      cases hr : Region.ready .any all.toArray listed with
      | nil => rfl
      | cons i rest =>
        have hi : i ∈ Region.ready .any all.toArray listed := by rw [hr]; simp
        have := count_set (mem_ready.1 hi).1
        omega
    exact ⟨hr, fin listed hsz nx env a m V w I hr⟩
  | succ fuel ih =>
    intro listed hsz hcnt nx env a m V w I
    refine ⟨fin listed hsz nx env a m V w I, fun i hi => ?_⟩
    obtain ⟨hnl, o, ho, hrdy⟩ := mem_ready.1 hi
    have ho' : all[i]? = some o := by simpa using ho
    have hil : i < listed.size := by rw [hsz]; exact (List.getElem?_eq_some_iff.1 ho').1
    have hnD : ¬ listed.getD i false = true := by
      simp [Array.getD_eq_getD_getElem?, hil] at hnl ⊢
      exact hnl
    refine I.exec X hC hg hl0 ho' hnD hrdy (by rw [List.all_eq_true] at hok; exact hok o (List.mem_of_getElem? ho')) fun nx' env' a' m' V' w' I' => ?_
    refine ih _ (by simpa using hsz) (by have := count_set hnl; omega) nx' env' a' m' V' w' ?_
    have hD : (fun j => listed.getD j false = true ∨ j = i) = fun j => (listed.setIfInBounds i true).getD j false = true := by
      funext j
      apply propext
      by_cases hj : j = i
      · subst hj; simp [Array.getD_eq_getD_getElem?, hil]
      · simp [Array.getD_eq_getD_getElem?, Array.getElem?_setIfInBounds_ne (Ne.symm hj), hj]
    rw [← hD]
    exact I'

theorem aopsD_sound (hC : CSound P gl C) (hCM : CMono C) (hm : P.follows .mixedOrders = true) (all : List Oper) {id : Nat} {m : Mp} {env env' : Env} {H H' : Heap} {a : Act} {w : World} (hd : drawOk P N all (befs all []) = true)
    (h : aopsD P C N all (befs all []) all 0 [] [] env H = some (env', H')) (hg : GOK P gl m) (hE : ERel m env a) (hr : HRel m H w) (hlow : MLow m H.n) (hok : (all.all fun o => o.op.operands.toList.all (okOpd P gl)) = true) (hN : a.tmps.size = N)
    (hq : ∀ m' a' w', ERel m' env' a' → Step m H w m' H' w' → a'.tmps.size = N → a'.defers = a.defers → Q .normal a' w') : (Code.region id all.toArray true).wp P Q a w := by
  obtain ⟨e, hh, v, h1, h2, h3, h4, T⟩ := trace all 0 [] [] env H env' H' (by simp) h
  simp only [Nat.zero_add] at h3 h4 T
  have hHlow : Low H := hr.low
  have X : Ctx P C N all e hh v := ⟨T, hd, by rw [h2]; exact hHlow, hCM⟩
  subst h1 h2 h3 h4
  refine wp_region_any hm ?_
  have hrw : HRel m (hh 0) { w with drawn := w.drawn + 1 } := ⟨hr.low, hr.blk, hr.inj, hr.one, hr.froz⟩
  have hsz : (all.toArray : Array Oper).size = all.length := by simp
  rw [hsz]
  refine any_sound (w0 := { w with drawn := w.drawn + 1 }) (df := a.defers) X hC hg hlow hok (fun m' a' w' q1 q2 q3 q4 => hq m' a' w' q1 ⟨q2.ext, q2.hn, q2.rel, q2.size, q2.frame, q2.own, q2.os, q2.tape, q2.output, q2.old, q2.back, q2.keepLow, q2.fresh⟩ q3 q4) all.length (Array.replicate all.length false) (by simp) (by simp) 0 (e 0) a m (hh 0) { w with drawn := w.drawn + 1 } ?_
  have hno : ∀ j, ¬ ((Array.replicate all.length false).getD j false = true) := fun j => by
    simp [Array.getD_eq_getD_getElem?, Array.getElem?_replicate]
    split <;> simp
  refine { cl := fun j o _ hD => absurd hD (hno j), nxle := Nat.zero_le _, ahead := fun i o _ _ hlt => absurd hlt (Nat.not_lt_zero _), behind := fun i o _ _ _ => hno i, rel := hrw, ml := hlow, x := fun _ _ => rfl, mp := fun b p hp => .inl (hlow b p hp), c1 := fun _ _ _ _ => rfl, c2 := ?_, l1 := ?_, l2 := ?_, one := hr.one, fz := fun _ _ _ _ => Iff.rfl, fr := ?_, en := ?_, enF := ?_, size := Nat.le_refl _, frame := fun _ _ _ => rfl, own := fun b blk p q1 q2 q3 _ => ⟨b, blk, p, q1, q2, q3, rfl⟩, os := rfl, tape := rfl, output := rfl, asz := hN, adf := rfl }
  · intro b p hp hb; have := hlow b p hp; omega
  · intro k hk b p blk hp hb hv j y hy
    obtain rfl : k = 0 := by omega
    exact (hr.blk b blk p hv hp).loc hlow j y hy
  · intro b p blk hp hb; have := hlow b p hp; omega
  · intro b blk hb hgt; have := hr.low b blk hgt; omega
  · intro j o t hj hnD ht hall
    have he : e j t = e 0 t := X.envStay (Nat.zero_le _) (Nat.le_of_lt (List.getElem?_eq_some_iff.1 hj).1) fun k q _ h2 hk hd => hno k (hall k q h2 hk hd)
    refine ⟨he.symm, ?_⟩
    refine (hE t).mono ?_
    intro b p hp
    unfold restr
    rw [if_pos (Nat.lt_of_lt_of_le (hlow b p hp) (X.monoN (Nat.zero_le _) (Nat.le_of_lt (List.getElem?_eq_some_iff.1 hj).1)).1)]
    exact hp
  · intro t hall
    have he : e all.length t = e 0 t := X.envStay (Nat.zero_le _) (Nat.le_refl _) fun k q _ _ hk hd => hno k (hall k q hk hd)
    exact ⟨he.symm, hE t⟩

theorem aregion_sound (hC : CSound P gl C) (hCM : CMono C) (hm : P.follows .mixedOrders = true) {id : Nat} {ops : Array Oper} {draw : Bool} {m : Mp} {env env' : Env} {H H' : Heap} {a : Act} {w : World}
    (h : aregion P C N ops.toList draw env H = some (env', H')) (hg : GOK P gl m) (hE : ERel m env a) (hr : HRel m H w) (hlow : MLow m H.n) (hok : (ops.toList.all fun o => o.op.operands.toList.all (okOpd P gl)) = true) (hN : a.tmps.size = N)
    (hq : ∀ m' a' w', ERel m' env' a' → Step m H w m' H' w' → a'.tmps.size = N → a'.defers = a.defers → Q .normal a' w') : (Code.region id ops draw).wp P Q a w := by
  unfold aregion at h
  split at h
  · rename_i hd
    subst hd
    split at h
    case isFalse => cases h
    rename_i hd
    have := aopsD_sound (id := id) hC hCM hm ops.toList hd h hg hE hr hlow hok hN hq
    simpa using this
  · rename_i hd
    have hd : draw = false := by simpa using hd
    subst hd
    refine wp_region ?_
    have := aops_sound (Q := Q) hC ops.toList ops.toList 0 (by simp) h hg hE hr hlow hok hN hq
    simpa [List.range_eq_range'] using this
end

def exOf : AExit → Exit
  | .normal => .normal
  | .exit id => .exit id
  | .ret => .ret
def Post (m : Mp) (H : Heap) (w : World) (N : Nat) (d : List Deferred) (e : AExit) (env' : Env) (H' : Heap) : Exit → Act → World → Prop := fun x a' w' => x = exOf e ∧ ∃ m', ERel m' env' a' ∧ Step m H w m' H' w' ∧ a'.tmps.size = N ∧ a'.defers = d

theorem acode_sound {P : Program} {gl : Bool} {C : CallF} {N fuel : Nat} (hC : CSound P gl C) (hCM : CMono C) (hm : P.follows .mixedOrders = true) : ∀ (c : Code) {m : Mp} {env env' : Env} {H H' : Heap} {a : Act} {w : World} {e : AExit},
    acode P C fuel N c env H = some (e, env', H') → GOK P gl m → ERel m env a → HRel m H w → MLow m H.n → okCode P gl c = true → a.tmps.size = N → c.wp P (Post m H w N a.defers e env' H') a w := by
  intro c
  induction c with
  | skip =>
    intro m env env' H H' a w e h hg hE hr hlow hok hN
    simp only [acode, Option.some.injEq, Prod.mk.injEq] at h
    obtain ⟨rfl, rfl, rfl⟩ := h
    exact wp_skip ⟨rfl, m, hE, Step.refl hr, hN, rfl⟩
  | exit id =>
    intro m env env' H H' a w e h hg hE hr hlow hok hN
    simp only [acode, Option.some.injEq, Prod.mk.injEq] at h
    obtain ⟨rfl, rfl, rfl⟩ := h
    exact wp_exit ⟨rfl, m, hE, Step.refl hr, hN, rfl⟩
  | ret =>
    intro m env env' H H' a w e h hg hE hr hlow hok hN
    simp only [acode, Option.some.injEq, Prod.mk.injEq] at h
    obtain ⟨rfl, rfl, rfl⟩ := h
    exact wp_ret ⟨rfl, m, hE, Step.refl hr, hN, rfl⟩
  | region id ops draw =>
    intro m env env' H H' a w e h hg hE hr hlow hok hN
    simp only [acode] at h
    split at h
    case h_2 => cases h
    rename_i env1 H1 h1
    simp only [Option.some.injEq, Prod.mk.injEq] at h
    obtain ⟨rfl, rfl, rfl⟩ := h
    exact aregion_sound hC hCM hm h1 hg hE hr hlow (by simpa [okCode] using hok) hN (fun m' a' w' q1 q2 q3 q4 => ⟨rfl, m', q1, q2, q3, q4⟩)
  | seq x y ihx ihy =>
    intro m env env' H H' a w e h hg hE hr hlow hok hN
    simp only [okCode, Bool.and_eq_true] at hok
    simp only [acode] at h
    refine wp_seq ?_
    split at h
    · rename_i env1 H1 h1
      refine Code.wp_mono (fun x a' w' hp => ?_) (ihx h1 hg hE hr hlow hok.1 hN)
      obtain ⟨rfl, m1, q1, q2, q3, q4⟩ := hp
      have hle := q2.mle hlow
      have := ihy h (hg.mono hle) q1 q2.rel (q2.keepLow hlow) hok.2 q3
      refine Code.wp_mono (fun x a2 w2 hp => ?_) this
      obtain ⟨r1, m2, r2, r3, r4, r5⟩ := hp
      exact ⟨r1, m2, r2, q2.trans r3, r4, r5.trans q4⟩
    · rename_i r hn
      have hp := ihx h hg hE hr hlow hok.1 hN
      refine Code.wp_mono (fun x a' w' hp => ?_) hp
      obtain ⟨rfl, m1, q⟩ := hp
      cases e with
      | normal => exact absurd h (hn _ _)
      | exit id => exact ⟨rfl, m1, q⟩
      | ret => exact ⟨rfl, m1, q⟩
  | cond c x y ihx ihy =>
    intro m env env' H H' a w e h hg hE hr hlow hok hN
    simp only [okCode, Bool.and_eq_true] at hok
    simp only [acode] at h
    have hc := ev_sound hE hg hok.1.1
    split at h
    · rename_i ht
      rw [ht] at hc
      exact wp_cond_true hc.bool_inv (ihx h hg hE hr hlow hok.1.2 hN)
    · rename_i ht
      rw [ht] at hc
      exact wp_cond_false hc.bool_inv (ihy h hg hE hr hlow hok.2 hN)
    · cases h
  | block id body ih =>
    intro m env env' H H' a w e h hg hE hr hlow hok hN
    simp only [okCode] at hok
    simp only [acode] at h
    refine wp_block ?_
    split at h
    · rename_i i env1 H1 h1
      refine Code.wp_mono (fun x a' w' hp => ?_) (ih h1 hg hE hr hlow hok hN)
      obtain ⟨rfl, q⟩ := hp
      simp only [exOf, Exit.inBlock]
      split at h
      · rename_i hi
        simp only [Option.some.injEq, Prod.mk.injEq] at h
        obtain ⟨rfl, rfl, rfl⟩ := h
        rw [if_pos hi]; exact ⟨rfl, q⟩
      · rename_i hi
        simp only [Option.some.injEq, Prod.mk.injEq] at h
        obtain ⟨rfl, rfl, rfl⟩ := h
        rw [if_neg hi]; exact ⟨rfl, q⟩
    · rename_i r hn
      refine Code.wp_mono (fun x a' w' hp => ?_) (ih h hg hE hr hlow hok hN)
      obtain ⟨rfl, q⟩ := hp
      cases e with
      | normal => exact ⟨rfl, q⟩
      | exit id => exact absurd h (hn _ _ _)
      | ret => exact ⟨rfl, q⟩
  | loop body ih =>
    intro m env env' H H' a w e h hg hE hr hlow hok hN
    simp only [okCode] at hok
    simp only [acode] at h
    have key : ∀ (n : Nat) {m : Mp} {env env' : Env} {H H' : Heap} {a : Act} {w : World} {e : AExit}, aloop (acode P C fuel N body) n env H = some (e, env', H') → GOK P gl m → ERel m env a → HRel m H w → MLow m H.n → a.tmps.size = N →
        Code.rounds P body (Post m H w N a.defers e env' H') n a w := by
      intro n
      induction n with
      | zero => intro m env env' H H' a w e h; cases h
      | succ n ihn =>
        intro m env env' H H' a w e h hg hE hr hlow hN
        simp only [aloop] at h
        rw [rounds_succ]
        split at h
        · rename_i env1 H1 h1
          refine Code.wp_mono (fun x a' w' hp => ?_) (ih h1 hg hE hr hlow hok hN)
          obtain ⟨rfl, m1, q1, q2, q3, q4⟩ := hp
          have hle := q2.mle hlow
          have hR := ihn h (hg.mono hle) q1 q2.rel (q2.keepLow hlow) q3
          refine rounds_mono (fun e a w hp => ?_) n _ _ hR
          obtain ⟨r1, m2, r2, r3, r4, r5⟩ := hp
          exact ⟨r1, m2, r2, q2.trans r3, r4, r5.trans q4⟩
        · rename_i r hn
          refine Code.wp_mono (fun x a' w' hp => ?_) (ih h hg hE hr hlow hok hN)
          obtain ⟨rfl, q⟩ := hp
          cases e with
          | normal => exact absurd h (hn _ _)
          | exit id => exact ⟨rfl, q⟩
          | ret => exact ⟨rfl, q⟩
    exact wp_loop_rounds fuel (key fuel h hg hE hr hlow hN)
  | scope body ih =>
    intro m env env' H H' a w e h hg hE hr hlow hok hN
    simp only [okCode] at hok
    simp only [acode] at h
    refine wp_scope_straight (Code.wp_mono (fun x a' w' hp => ?_) (ih h hg hE hr hlow hok hN))
    obtain ⟨rfl, q⟩ := hp
    cases e with
    | normal => exact ⟨rfl, q⟩
    | exit id => exact ⟨rfl, q⟩
    | ret => exact ⟨rfl, q⟩
  | label l =>
    intro m env env' H H' a w e h hg hE hr hlow hok hN
    simp only [acode, Option.some.injEq, Prod.mk.injEq] at h
    obtain ⟨rfl, rfl, rfl⟩ := h
    exact wp_label ⟨rfl, m, hE, Step.refl hr, hN, rfl⟩
  | _ => intro m env env' H H' a w e h; simp only [acode] at h; cases h

end Go.Eng
