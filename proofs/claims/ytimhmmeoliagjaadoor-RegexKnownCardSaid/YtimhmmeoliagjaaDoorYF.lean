import Derived.Test.YtimhmmeoliagjaaDoorYD
import Derived.Test.YtimhmmeoliagjaaDoorZX
set_option linter.unusedVariables false
set_option linter.unusedSimpArgs false
set_option linter.unusedSectionVars false
set_option maxRecDepth 100000
namespace Go.Eng
open Go Go.Proofs Go.RowKit Go.Shelf

theorem acall_ext {P : Program} {gl : Bool} {E : Ext} {f : FuncId} {fn : Func} {g : List Value → Heap → Option (Value × Heap)} (hf : P.funcs[f]? = some fn) (hn : (fn.name == "runtime.NumGoroutine") = false) (hb : fn.body.isSome = true) (h : E f = some g) (n : Nat) (args : List Value) (H : Heap) : acall P gl E (n + 1) f args H = g args H := by
  obtain ⟨c, hc⟩ := Option.isSome_iff_exists.1 hb
  unfold acall
  rw [hf]
  simp only [hn, hc, h]
def frz (H : Heap) : Heap := ⟨H.n, fun b => match H.get b with | some blk => if blk.own then none else some blk | none => none⟩
theorem frz_get {H : Heap} {b : Nat} {blk : Blk} : (frz H).get b = some blk ↔ H.get b = some blk ∧ blk.own = false := by
  unfold frz
  simp only
  cases h : H.get b with
  | none => simp
  | some k =>
    simp only
    by_cases ho : k.own = true
    · simp only [ho, if_true, Option.some.injEq]
      constructor
      · intro h; cases h
      · rintro ⟨rfl, h2⟩; rw [ho] at h2; cases h2
    · have ho' : k.own = false := by simpa using ho
      rw [ho']
      simp only [Bool.false_eq_true, if_false, Option.some.injEq]
      constructor
      · rintro rfl; exact ⟨rfl, ho'⟩
      · rintro ⟨rfl, _⟩; rfl
theorem HRel.frz {m : Mp} {H : Heap} {w : World} (h : HRel m H w) : HRel m (frz H) w := by
  refine ⟨fun b blk q => h.low b blk (frz_get.1 q).1, fun b blk p q hp => h.blk b blk p (frz_get.1 q).1 hp, ?_, fun b blk q => h.one b blk (frz_get.1 q).1, fun b blk p q ho hp => h.froz b blk p (frz_get.1 q).1 ho hp⟩
  intro b b' k k' p p' hne h1 ho
  have := (frz_get.1 h1).2
  rw [ho] at this; cases this
theorem Keep.frz {H H' : Heap} (h : Keep (all H) H H') : Keep (all (frz H)) (frz H) (frz H') := by
  refine ⟨h.1, fun b hb => ?_⟩
  have := h.2 b hb
  unfold Eng.frz
  simp only [this]
theorem frz_calls {f : FuncId} {fn : Func} (hf : Tryd.prog.funcs[f]? = some fn) (hn : (fn.name == "runtime.NumGoroutine") = false) (hb : fn.body.isSome = true) {H : Heap} {args : List Value} {v : Value} {H' : Heap} (h : ClP Tryd.prog true noExt f args (frz H) v H')
    {m : Mp} {w : World} {args' : List Value} (ha : LRel m args args') (hr : HRel m H w) (hl : MLow m H.n) (hg : GOK Tryd.prog true m) :
    Calls Tryd.prog f args'.toArray w fun e w' => ∃ m' v', e = .returned v' ∧ VRel m' v v' ∧ Below w.heap.size w w' := by
  obtain ⟨N, hN⟩ := h
  refine (acall_calls (by kernel_rfl) (noExt_sound _ _) noExt_mono hf hn hb (hN N N (Nat.le_refl _) (Nat.le_refl _)) ha hr.frz hl hg).mono fun e w' ⟨m', v', he, hv, hs⟩ => ?_
  refine ⟨m', v', he, hv, ⟨hs.os, hs.tape, hs.output, hs.size, fun k hk => hs.frame k hk fun b blk p q ho hp => ?_⟩⟩
  have := (frz_get.1 q).2
  rw [ho] at this; cases this
def TbF (H : Heap) : Prop := ∃ s, H.get 2 = some ⟨B Lib.deBruijn64tab, s, false⟩
def G9 (H : Heap) : Prop := Lt (all (frz H)) (frz H) ∧ 2 < H.n ∧ TbF H
theorem G9.keep {H H' : Heap} (h : G9 H) (k : Keep (all H) H H') : G9 H' := by
  obtain ⟨h1, h2, s, h3⟩ := h
  refine ⟨(h1.keep k.frz).mono fun b hb => Nat.lt_of_lt_of_le hb k.1, Nat.lt_of_lt_of_le h2 k.1, s, by rw [k.2 2 h2]; exact h3⟩
theorem G9.lt {H : Heap} (h : G9 H) : Lt (all H) H := by
  obtain ⟨⟨v, s, o, h0, h1, h2⟩, _⟩ := h
  refine ⟨v, s, o, h0, (frz_get.1 h1).1, ?_⟩
  rcases h2 with h | h | ⟨b, o, sp, cap, blk, q1, q2, q3, q4⟩
  · exact .inl h
  · exact .inr (.inl h)
  · exact .inr (.inr ⟨b, o, sp, cap, blk, q1, q2, (frz_get.1 q3).1, q4⟩)
theorem glob2 : 2 < Tryd.prog.globals.size := of_decide_eq_true (show decide (2 < Tryd.prog.globals.size) = true by kernel_rfl)
theorem tab_at {m : Mp} {H : Heap} {w : World} (hr : HRel m H w) (hg : GOK Tryd.prog true m) (h : TbF H) : TabAt 2 Lib.deBruijn64tab w := by
  obtain ⟨s, h⟩ := h
  have hm : m 2 = some ⟨2, 0, 0⟩ := hg rfl 2 glob2
  obtain ⟨cs, e, fr, q1, q2, q3, _⟩ := (hr.blk 2 _ _ h hm).plain rfl
  intro j hj
  obtain ⟨v', p1, p2⟩ := q3 j (.int .u8 ((Lib.deBruijn64tab.getD j 0 : Nat) : Int)) (by
    simp only [B, List.getElem?_map, List.getD_eq_getElem?_getD]
    rw [List.getElem?_eq_getElem hj]; rfl)
  have := p2.eq_of_flat1 rfl
  subst this
  rw [Lib.cell_of_heap q1]
  simpa using p1
theorem SC_inj {s t : Nat} (h : (.agg (SC s).toArray : Value) = .agg (SC t).toArray) : setL s = setL t := by
  have h' : SC s = SC t := by
    injection h with h
    have := congrArg Array.toList h
    simpa using this
  have w : ∀ i, i < 4 → wrd s i = wrd t i := fun i hi => by
    have := congrArg (fun l => l[i]?) h'
    simp only [SC, W4_at _ hi, Option.some.injEq, Value.int.injEq, true_and] at this
    omega
  unfold setL
  rw [w 0 (by omega), w 1 (by omega), w 2 (by omega), w 3 (by omega)]
open Classical in
noncomputable def gLeast (args : List Value) (H : Heap) : Option (Value × Heap) :=
  if h : ∃ s, args = [.agg (SC s).toArray] ∧ TbF H then some (leastV (Classical.choose h), H) else none
theorem least_same {s t : Nat} (h : setL s = setL t) : leastV s = leastV t := by unfold leastV; rw [h]
theorem gLeast_eq {H : Heap} (h : TbF H) (s : Nat) : gLeast [.agg (SC s).toArray] H = some (leastV s, H) := by
  have hx : ∃ t, [Value.agg (SC s).toArray] = [.agg (SC t).toArray] ∧ TbF H := ⟨s, rfl, h⟩
  unfold gLeast
  rw [dif_pos hx]
  have := (List.cons.inj (Classical.choose_spec hx).1).1
  exact congrArg (fun x => some (x, H)) ((least_same (SC_inj this)).symm)
theorem gLeast_inv {args : List Value} {H H' : Heap} {v : Value} (h : gLeast args H = some (v, H')) : ∃ s, args = [.agg (SC s).toArray] ∧ TbF H ∧ v = leastV s ∧ H' = H := by
  unfold gLeast at h
  split at h
  · rename_i hx
    simp only [Option.some.injEq, Prod.mk.injEq] at h
    obtain ⟨h1, h2⟩ := Classical.choose_spec hx
    exact ⟨_, h1, h2, h.1.symm, h.2.symm⟩
  · cases h
def listN (tx : Nat → List Nat) (l : List Nat) : Nat → Nat → List Nat
  | 0, _ => []
  | f + 1, i =>
    if i < l.length then
      if 2 ≤ runE l l.length i - i then tx (l.getD i 0) ++ 45 :: (tx (l.getD (runE l l.length i) 0) ++ listN tx l f (runE l l.length i + 1))
      else tx (l.getD i 0) ++ listN tx l f (i + 1)
    else []
theorem listN_B (tx : Nat → List Nat) (l : List Nat) : ∀ f i, listB (fun c => (tx c).map UInt8.ofNat) l f i = (listN tx l f i).map UInt8.ofNat
  | 0, _ => rfl
  | f + 1, i => by
    rw [listB, listN, listN_B tx l f, listN_B tx l f]
    split
    · split
      · simp
      · simp
    · rfl
def clsN (s : Nat) : List Nat := listN (byteN classL) (setL s) 257 0
open Classical in
noncomputable def gList (args : List Value) (H : Heap) : Option (Value × Heap) :=
  if h : ∃ s, args = [.agg (SC s).toArray] ∧ G9 H then some (.string (strOf (clsN (Classical.choose h))), H) else none
theorem cls_same {s t : Nat} (h : setL s = setL t) : clsN s = clsN t := by unfold clsN; rw [h]
theorem gList_eq {H : Heap} (h : G9 H) (s : Nat) : gList [.agg (SC s).toArray] H = some (.string (strOf (clsN s)), H) := by
  have hx : ∃ t, [Value.agg (SC s).toArray] = [.agg (SC t).toArray] ∧ G9 H := ⟨s, rfl, h⟩
  unfold gList
  rw [dif_pos hx]
  have := (List.cons.inj (Classical.choose_spec hx).1).1
  exact congrArg (fun x => some (Value.string (strOf x), H)) ((cls_same (SC_inj this)).symm)
theorem gList_inv {args : List Value} {H H' : Heap} {v : Value} (h : gList args H = some (v, H')) : ∃ s, args = [.agg (SC s).toArray] ∧ G9 H ∧ v = .string (strOf (clsN s)) ∧ H' = H := by
  unfold gList at h
  split at h
  · rename_i hx
    simp only [Option.some.injEq, Prod.mk.injEq] at h
    obtain ⟨h1, h2⟩ := Classical.choose_spec hx
    exact ⟨_, h1, h2, h.1.symm, h.2.symm⟩
  · cases h
theorem rel_flats {m : Mp} {l : List Value} (h : l.all flat1 = true) : LRel m l l := ⟨rfl, fun i v v' h1 h2 => by
  rw [h1] at h2; injection h2 with h2; subst h2
  exact .flat (List.all_eq_true.1 h v (List.mem_of_getElem? h1))⟩
theorem set_flat (m : Mp) (s : Nat) {args' : List Value} (ha : LRel m [.agg (SC s).toArray] args') : args' = [.agg (setW s)] := by
  obtain ⟨v', r', rfl, hv, hr⟩ := ha.cases_cons
  obtain rfl := hr.cases_nil
  obtain ⟨cs', rfl, h⟩ := hv.agg_inv
  have h2 : cs'.toList = SC s := h.eq_flat (by rfl)
  have : cs' = setW s := by
    apply Array.ext'
    rw [h2]; rfl
  rw [this]
noncomputable def setE : Ext := fun f => if f = 75 then some gLeast else if f = 76 then some gList else none
theorem setE_mono : ExtMono setE := fun f g hfg f' args H v H' h => by
  unfold setE at hfg
  split at hfg
  · injection hfg with hfg; subst hfg
    obtain ⟨_, _, _, _, rfl⟩ := gLeast_inv h
    exact Mono.refl _
  · split at hfg
    · injection hfg with hfg; subst hfg
      obtain ⟨_, _, _, _, rfl⟩ := gList_inv h
      exact Mono.refl _
    · cases hfg
theorem leastV_rel (m : Mp) (s : Nat) : VRel m (leastV s) (leastV s) := by
  unfold leastV; split
  · exact VRel.tuple' (rel_flats rfl)
  · exact VRel.tuple' (rel_flats rfl)
theorem setE_sound : ExtSound Tryd.prog true setE := by
  intro f g hfg args H v H' h m w args' ha hr hlow hg
  unfold setE at hfg
  split at hfg
  · rename_i hf
    subst hf
    injection hfg with hfg; subst hfg
    obtain ⟨s, rfl, hT, rfl, rfl⟩ := gLeast_inv h
    rw [set_flat m s ha]
    refine (least_calls s w (tab_at hr hg hT)).mono fun e w' ⟨he, hB⟩ => ⟨m, _, he, leastV_rel m s, step_below hr hB⟩
  · split at hfg
    case isFalse => cases hfg
    rename_i hf
    subst hf
    injection hfg with hfg; subst hfg
    obtain ⟨s, rfl, hT, rfl, rfl⟩ := gList_inv h
    rw [set_flat m s ha]
    refine (listText_calls s w (tab_at hr hg hT.2.2) (fun c => (byteN classL c).map UInt8.ofNat) (fun c => by rw [List.length_map]; exact byteN_len _ _) (fun c => by simpa using byteN_ne classL c) ?_).mono fun e w' ⟨he, hB⟩ => ⟨m, _, he, ?_, step_below hr hB⟩
    · intro c W hc hW
      have hr2 : HRel m H' W := (step_below hr hW).rel
      obtain ⟨H1, c1, _⟩ := bt_ok (E := noExt) (noT := classT) (noL := classL) rfl rfl (fun c hc => class_mem hc) rfl hT.1 hc
      refine (frz_calls Tryd.func77 (by kernel_rfl) (by kernel_rfl) c1 (args' := [.int .u8 (c : Int), .string (bs classT)]) ?_ hr2 hlow hg).mono fun e w' ⟨m', v', he, hv, hB⟩ => ⟨?_, hB⟩
      · refine ⟨rfl, fun i v v' h1 h2 => ?_⟩
        have : v = v' := by rw [h1] at h2; injection h2
        subst this
        match i, h1 with
        | 0, h1 => cases h1; exact .flat rfl
        | 1, h1 => cases h1; exact .flat rfl
      · rw [he, hv.string_inv]; rfl
    · have : (strOf (clsN s)) = ⟨(listB (fun c => (byteN classL c).map UInt8.ofNat) (setL s) 257 0).toArray⟩ := by
        rw [listN_B]; rfl
      rw [this]; exact .flat rfl
noncomputable def EX : Ext := orE (orE parseE setE) (repE 35)
theorem EX_sound : ExtSound Tryd.prog true EX := orE_sound (orE_sound parseE_sound setE_sound) rep35_sound
theorem EX_mono : ExtMono EX := orE_mono (orE_mono parseE_mono setE_mono) rep35_mono
theorem EX_parse : EX 24 = some gParse := rfl
theorem least_cl {E : Ext} (hE : E 75 = some gLeast) {H : Heap} (h : TbF H) (s : Nat) : ClP Tryd.prog true E 75 [.agg (SC s).toArray] H (leastV s) H := ⟨1, fun n m h1 _ => by
  obtain ⟨n, rfl⟩ : ∃ k, n = k + 1 := ⟨n - 1, by omega⟩
  exact (acall_ext Tryd.func75 (by kernel_rfl) (by kernel_rfl) hE n _ H).trans (gLeast_eq h s)⟩
theorem list_cl {E : Ext} (hE : E 76 = some gList) {H : Heap} (h : G9 H) (s : Nat) : ClP Tryd.prog true E 76 [.agg (SC s).toArray] H (.string (strOf (clsN s))) H := ⟨1, fun n m h1 _ => by
  obtain ⟨n, rfl⟩ : ∃ k, n = k + 1 := ⟨n - 1, by omega⟩
  exact (acall_ext Tryd.func76 (by kernel_rfl) (by kernel_rfl) hE n _ H).trans (gList_eq h s)⟩
end Go.Eng
