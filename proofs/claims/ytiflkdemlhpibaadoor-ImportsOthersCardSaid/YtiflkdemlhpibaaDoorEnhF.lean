/- Slicing, building, computing. -/
import Derived.Test.YtiflkdemlhpibaaDoorEnhE
import Derived.IntWalk
set_option linter.unusedVariables false
namespace Go.Eng
open Go Go.IntWalk

def ORel (m : Mp) : Option Value → Option Value → Prop
  | none, none => True
  | some a, some b => VRel m a b
  | _, _ => False
theorem bound_inv {m : Mp} {v v' : Option Value} {d l : Nat} (hv : ORel m v v') (h : bound v d = some l) : (v = none ∧ v' = none ∧ l = d) ∨ ∃ k n, v = some (.int k n) ∧ v' = some (.int k n) ∧ 0 ≤ n ∧ l = n.toNat := by
  unfold bound at h
  split at h
  · cases v' with
    | none => exact .inl ⟨rfl, rfl, (Option.some.inj h).symm⟩
    | some _ => exact hv.elim
  · rename_i k n
    split at h
    case isFalse => cases h
    rename_i hn
    cases v' with
    | none => exact hv.elim
    | some b =>
      obtain rfl := VRel.int_inv hv
      exact .inr ⟨k, n, rfl, rfl, hn, (Option.some.inj h).symm⟩
  · cases h
theorem bounds_sound {P : Program} {m : Mp} {w : World} {isS : Bool} {len cap cap' l h mm : Nat} {lo lo' hi hi' mx mx' : Option Value} (r1 : ORel m lo lo') (r2 : ORel m hi hi') (r3 : ORel m mx mx')
    (hl : bound lo 0 = some l) (hh : bound hi len = some h) (hm : bound mx cap = some mm) (h1 : l ≤ h) (h2 : h ≤ mm) (h3 : mm ≤ cap) (h4 : cap ≤ cap') (hx : (mx.isNone || hi.isSome) = true) :
    (Instr.sliceBounds isS len cap' lo' hi' mx').run P w = .ok (l, h, if mx.isSome then mm else cap') w := by
  unfold Instr.sliceBounds
  have sb : ∀ (k : IntKind) (n : Int) (y : Nat) (c : BoundsCode), 0 ≤ n → n.toNat ≤ y → (Instr.sliceBound (.int k n) y c).run P w = .ok n.toNat w := fun k n y c q1 q2 => by
    have : n ≤ (y : Int) := by omega
    simp [Instr.sliceBound, asIntOf, q1, this]
  rcases bound_inv r3 hm with ⟨rfl, rfl, rfl⟩ | ⟨k3, n3, rfl, rfl, q3, rfl⟩
  · rcases bound_inv r2 hh with ⟨rfl, rfl, rfl⟩ | ⟨k2, n2, rfl, rfl, q2, rfl⟩
    · rcases bound_inv r1 hl with ⟨rfl, rfl, rfl⟩ | ⟨k1, n1, rfl, rfl, q1, rfl⟩
      · simp
      · simp [sb _ _ _ _ q1 h1]
    · rcases bound_inv r1 hl with ⟨rfl, rfl, rfl⟩ | ⟨k1, n1, rfl, rfl, q1, rfl⟩
      · simp [sb _ _ _ _ q2 (show n2.toNat ≤ cap' by omega)]
      · simp [sb _ _ _ _ q2 (show n2.toNat ≤ cap' by omega), sb _ _ _ _ q1 h1]
  · rcases bound_inv r2 hh with ⟨rfl, rfl, rfl⟩ | ⟨k2, n2, rfl, rfl, q2, rfl⟩
    · simp at hx
    · rcases bound_inv r1 hl with ⟨rfl, rfl, rfl⟩ | ⟨k1, n1, rfl, rfl, q1, rfl⟩
      · simp [sb _ _ _ _ q3 (show n3.toNat ≤ cap' by omega), sb _ _ _ _ q2 h2]
      · simp [sb _ _ _ _ q3 (show n3.toNat ≤ cap' by omega), sb _ _ _ _ q2 h2, sb _ _ _ _ q1 h1]

theorem slcStr_sound {P : Program} {m : Mp} {w : World} {x x' v : Value} {t : TypeId} {lo lo' hi hi' : Option Value} (hx : VRel m x x') (r1 : ORel m lo lo') (r2 : ORel m hi hi') (hu : P.underlying t = some .string)
    (h : slcStr x lo hi = some v) : (Instr.sliceAt t x' lo' hi' none).run P w = .ok v w ∧ VRel m v v := by
  unfold slcStr at h
  split at h
  case h_2 => cases h
  rename_i s
  split at h
  case h_2 => cases h
  rename_i l hh hl hh'
  split at h
  case isFalse => cases h
  rename_i hc
  simp only [Option.some.injEq] at h
  subst h
  obtain rfl := hx.string_inv
  have hb := bounds_sound (P := P) (w := w) (isS := false) (len := s.size) (cap := s.size) (cap' := s.size) r1 r2 (mx := none) (mx' := none) trivial hl hh' rfl hc.1 hc.2 (Nat.le_refl _) (Nat.le_refl _) rfl
  exact ⟨by simp [Instr.sliceAt, Instr.slice, run_underlying hu, hb], .flat rfl⟩

theorem slcS_sound {P : Program} {m : Mp} {w : World} {x x' v : Value} {t e : TypeId} {sz : Nat} {lo lo' hi hi' mx mx' : Option Value} (hx : VRel m x x') (r1 : ORel m lo lo') (r2 : ORel m hi hi') (r3 : ORel m mx mx')
    (hu : P.underlying t = some (.slice e)) (hk : szOf P e = some sz) (h : slcS sz x lo hi mx = some v) : ∃ v', (Instr.sliceAt t x' lo' hi' mx').run P w = .ok v' w ∧ VRel m v v' := by
  unfold slcS at h
  split at h
  case h_2 => cases h
  rename_i base len cap
  split at h
  case h_2 => cases h
  rename_i l hh mm hl hh' hmm
  split at h
  case isFalse => cases h
  rename_i hc
  obtain ⟨c1, c2, c3, c4⟩ := hc
  have run : ∀ (base' : Option Addr) (cap' : Nat), x' = .slice base' len cap' → cap ≤ cap' → (Instr.sliceAt t x' lo' hi' mx').run P w =
      .ok (.slice (if (if mx.isSome then mm else cap') = l then base' else base'.map (·.add (l * sz))) (hh - l) ((if mx.isSome then mm else cap') - l)) w := fun base' cap' he hle => by
    subst he
    have hb := bounds_sound (P := P) (w := w) (isS := true) (len := len) (cap := cap) (cap' := cap') r1 r2 r3 hl hh' hmm c1 c2 c3 hle c4
    simp [Instr.sliceAt, Instr.slice, run_underlying hu, hb, run_size hk]
  cases base with
  | none =>
    simp only [Option.some.injEq] at h
    subst h
    obtain ⟨rfl, rfl, rfl⟩ := hx.slice_nil_inv
    have : mm = 0 := by omega
    subst this
    have : l = 0 := by omega
    subst this
    have : hh = 0 := by omega
    subst this
    refine ⟨.slice none 0 0, ?_, .flat rfl⟩
    rw [run none 0 rfl (Nat.le_refl _)]
    simp
  | some a =>
    obtain ⟨b, o, sp⟩ := a
    simp only [Option.some.injEq] at h
    subst h
    rcases hx.slice_inv with ⟨rfl, rfl, a', rfl⟩ | ⟨p, cap', hp, rfl, g1, g2, g3, g4⟩
    · have : mm = 0 := by omega
      subst this
      have : l = 0 := by omega
      subst this
      have : hh = 0 := by omega
      subst this
      obtain ⟨p0, hp0⟩ := hx.slice_mapped
      refine ⟨.slice (some a') 0 0, ?_, by simpa using VRel.sl0 hp0⟩
      rw [run (some a') 0 rfl (Nat.le_refl _)]
      simp
    · refine ⟨_, run _ cap' rfl g2, ?_⟩
      by_cases hz : (if mx.isSome then mm else cap') = l
      · rw [if_pos hz]
        have hm0 : mm - l = 0 := by
          split at hz
          · omega
          · omega
        have hh0 : hh - l = 0 := by omega
        rw [hz, hm0, hh0, Nat.sub_self]
        exact .sl0 hp
      · rw [if_neg hz]
        simp only [Option.map_some, add_plain]
        rw [Nat.add_assoc]
        cases hms : mx.isSome with
        | true =>
          simp only [if_true]
          exact .slx hp (by omega)
        | false =>
          simp only [Bool.false_eq_true, if_false]
          have hmc : mm = cap := by
            cases mx with
            | none => simpa [bound] using hmm.symm
            | some _ => simp at hms
          subst hmc
          rcases g4 with rfl | ⟨rfl, rfl⟩
          · exact .slc hp (by omega) (by omega) (by omega)
          · exact .slx hp (by omega)


theorem slcA_sound {P : Program} {m : Mp} {w : World} {x x' v : Value} {t e : TypeId} {n sz : Nat} {lo lo' hi hi' mx mx' : Option Value} (hx : VRel m x x') (r1 : ORel m lo lo') (r2 : ORel m hi hi') (r3 : ORel m mx mx')
    (hu : P.underlying t = some (.array n e)) (hk : szOf P e = some sz) (h : slcA n sz x lo hi mx = some v) : ∃ v', (Instr.sliceAt t x' lo' hi' mx').run P w = .ok v' w ∧ VRel m v v' := by
  unfold slcA at h
  split at h
  case h_2 => cases h
  rename_i b o
  split at h
  case h_2 => cases h
  rename_i l hh mm hl hh' hmm
  split at h
  case isFalse => cases h
  rename_i hc
  obtain ⟨c1, c2, c3, c4⟩ := hc
  simp only [Option.some.injEq] at h
  subst h
  obtain ⟨p, hp, rfl⟩ := hx.ptr_inv
  have hb := bounds_sound (P := P) (w := w) (isS := false) (len := n) (cap := n) (cap' := n) r1 r2 r3 hl hh' hmm c1 c2 c3 (Nat.le_refl _) c4
  have hmx : (if mx.isSome then mm else n) = mm := by
    cases mx with
    | none => simpa [bound] using hmm
    | some _ => rfl
  rw [hmx] at hb
  refine ⟨.slice (some (if mm = l then ⟨p.blk, p.off + o, none⟩ else ⟨p.blk, p.off + (o + l * sz), none⟩)) (hh - l) (mm - l), ?_, ?_⟩
  · simp [Instr.sliceAt, run_underlying hu, Instr.sureAddr, hb, run_size hk, add_plain, Nat.add_assoc]
  · by_cases hz : mm = l
    · rw [if_pos hz, show hh - l = 0 by omega, show mm - l = 0 by omega]; exact .sl0 hp
    · rw [if_neg hz]; exact .slx hp (by omega)

/-! ### building -/
theorem splice_rel {m : Mp} {l l' vs vs' : List Value} (h : LRel m l l') (h' : LRel m vs vs') (o : Nat) : LRel m (splice l o vs) (splice l' o vs') := by
  unfold splice
  rw [← h'.1]
  exact ((h.take o).append h').append (h.drop _)
theorem fill_cells (cells : Array Value) (off : Nat) (vs : List Value) (h : off + vs.length ≤ cells.size) :
    (vs.toArray.zipIdx.foldl (fun cs (c, j) => cs.setIfInBounds (off + j) c) cells).toList = splice cells.toList off vs := by
  have key : ∀ (vs : List Value) (k : Nat) (cells : Array Value), off + k + vs.length ≤ cells.size → ((vs.zipIdx k).foldl (fun cs (c, j) => Array.setIfInBounds cs (off + j) c) cells) = spl cells (off + k) vs := by
    intro vs
    induction vs with
    | nil => intro k cells _; rfl
    | cons v vs ih =>
      intro k cells hk
      simp only [List.length_cons] at hk
      simp only [List.zipIdx_cons, List.foldl_cons, spl]
      rw [ih (k + 1) _ (by simp; omega)]
      rfl
  rw [← Array.foldl_toList, Array.toList_zipIdx]
  rw [key vs 0 cells (by omega)]
  apply List.ext_getElem?
  intro i
  rw [splice_get (by simpa using h), Array.getElem?_toList, spl_get _ _ _ _ (by omega)]
  simp
theorem fillC_sound {m : Mp} (place : Nat → Option (Nat × Nat)) : ∀ (ps : List (Nat × Value)) (ps' : List (Nat × Value)) (pl : List (Nat × Nat × Value)) (cells cells' : List Value) (r : List Value),
    ps.map (·.1) = ps'.map (·.1) → LRel m (ps.map (·.2)) (ps'.map (·.2)) → (∀ (i : Nat) a, ps[i]? = some a → ∃ o s, place a.1 = some (o, s) ∧ pl[i]? = some (o, s, a.2)) → pl.length = ps.length → LRel m cells cells' →
    fillC cells pl = some r → ∃ r', Instr.fill place cells'.toArray ps' = some r' ∧ LRel m r r'.toList
  | [], ps', pl, cells, cells', r, h1, h2, h3, h4, h5, h6 => by
    cases ps' with
    | cons a b => simp at h1
    | nil =>
      have : pl = [] := List.eq_nil_of_length_eq_zero h4
      subst this
      simp only [fillC, Option.some.injEq] at h6
      subst h6
      exact ⟨cells'.toArray, rfl, h5⟩
  | (i, v) :: ps, ps', pl, cells, cells', r, h1, h2, h3, h4, h5, h6 => by
    cases ps' with
    | nil => simp at h1
    | cons a ps' =>
      obtain ⟨i', v'⟩ := a
      simp only [List.map_cons, List.cons.injEq] at h1
      obtain ⟨rfl, h1⟩ := h1
      simp only [List.map_cons] at h2
      obtain ⟨o, s, q1, q2⟩ := h3 0 (i, v) rfl
      cases pl with
      | nil => simp at q2
      | cons x pl =>
        simp only [List.getElem?_cons_zero, Option.some.injEq] at q2
        subst q2
        simp only [fillC] at h6
        split at h6
        case isFalse => cases h6
        rename_i hc
        have hv := h2.head
        have hsz : v'.cells.size = v.cells.size := LRel.size hv.cells
        have hl : cells'.toArray.size = cells.length := by simp [h5.1]
        have hle : o + v'.cells.toList.length ≤ cells'.toArray.size := by rw [hl]; simp [hsz]; omega
        have hf := fill_cells cells'.toArray o v'.cells.toList hle
        obtain ⟨r', g1, g2⟩ := fillC_sound place ps ps' pl _ (splice cells' o v'.cells.toList) r h1 h2.tail (fun i a ha => by have := h3 (i + 1) a (by simpa using ha); simpa using this) (by simpa using h4) (splice_rel h5 hv.cells o) h6
        refine ⟨r', ?_, g2⟩
        simp only [Instr.fill, q1]
        have hl' := h5.1
        have hc2 := hc.2
        rw [if_neg (by simp only [hsz, hc.1, List.size_toArray]; simp; omega)]
        rw [← g1]
        congr 1
        apply Array.ext'
        simpa using hf


theorem run_mapM {α β : Type} {P : Program} {w : World} {f : α → Sem β} {g : α → Option β} (hf : ∀ a b, g a = some b → (f a).run P w = .ok b w) : ∀ (l : List α) (r : List β), l.mapM g = some r → (l.mapM f).run P w = .ok r w
  | [], r, h => by simp at h; subst h; simp
  | a :: l, r, h => by
    rw [List.mapM_cons] at h
    simp only [Option.bind_eq_bind, Option.bind_eq_some_iff, Option.pure_def, Option.some.injEq] at h
    obtain ⟨b, hb, r', hr', rfl⟩ := h
    rw [List.mapM_cons]
    simp [hf a b hb, run_mapM hf l r' hr']

theorem build_sound {P : Program} {m : Mp} {w : World} {t : TypeId} {ps ps' : List (Nat × Value)} {pl : List (Nat × Nat × Value)} {z : Value} {cs : List Value} (hi : ps.map (·.1) = ps'.map (·.1)) (hv : LRel m (ps.map (·.2)) (ps'.map (·.2)))
    (hz : zeroOf P t = some z) (hzf : flat z = true) (hp : places P t ps = some pl) (h : fillC z.cells.toList pl = some cs) : ∃ v', (Instr.build t ps'.toArray).run P w = .ok v' w ∧ VRel m (.agg cs.toArray) v' := by
  have hzr : LRel m z.cells.toList z.cells.toList := (VRel.ofFlat hzf).cells
  unfold places at hp
  split at hp
  · rename_i fs hu
    simp only [Option.bind_eq_some_iff] at hp
    obtain ⟨pls, hpls, hp⟩ := hp
    have hmap : ∀ (ps : List (Nat × Value)) (pl : List (Nat × Nat × Value)), (ps.mapM fun (x : Nat × Value) => (pls[x.1]?).map fun p => (p.1, p.2, x.2)) = some pl →
        pl.length = ps.length ∧ ∀ (i : Nat) a, ps[i]? = some a → ∃ o s, pls[a.1]? = some (o, s) ∧ pl[i]? = some (o, s, a.2) := by
      intro ps
      induction ps with
      | nil => intro pl h; simp at h; subst h; exact ⟨rfl, by simp⟩
      | cons a ps ih =>
        intro pl h
        rw [List.mapM_cons] at h
        simp only [Option.bind_eq_bind, Option.bind_eq_some_iff, Option.map_eq_some_iff] at h
        obtain ⟨x, ⟨p, hf, rfl⟩, pl', hpl, h⟩ := h
        simp only [Option.pure_def, Option.some.injEq] at h
        subst h
        obtain ⟨q1, q2⟩ := ih pl' hpl
        refine ⟨by simp [q1], fun j b hb => ?_⟩
        cases j with
        | zero => simp at hb; subst hb; exact ⟨p.1, p.2, hf, rfl⟩
        | succ j => simp at hb; obtain ⟨o, s', k1, k2⟩ := q2 j b hb; exact ⟨o, s', k1, by simpa using k2⟩
    obtain ⟨hlen, hpl⟩ := hmap ps pl hp
    have hrun := run_mapM (P := P) (w := w) (f := fun f : Field => (do pure (f.offset, ← sizeOf f.type) : Sem (Nat × Nat))) (g := fun f : Field => (szOf P f.type).map fun s => (f.offset, s)) (fun a b hab => by
      cases hs : szOf P a.type with
      | none => simp [hs] at hab
      | some s => simp [hs] at hab; subst hab; simp [run_size hs]) fs.toList pls hpls
    obtain ⟨r', g1, g2⟩ := fillC_sound (m := m) (fun i => pls.toArray[i]?) ps ps' pl z.cells.toList z.cells.toList cs hi hv (fun i a ha => by obtain ⟨o, s, k1, k2⟩ := hpl i a ha; exact ⟨o, s, by simpa using k1, k2⟩) hlen hzr h
    refine ⟨.agg r', ?_, .agg' (by simpa using g2)⟩
    have hrun' : (fs.mapM fun f : Field => (do pure (f.offset, ← sizeOf f.type) : Sem (Nat × Nat))).run P w = .ok pls.toArray w := by
      rw [Array.mapM_eq_mapM_toList]
      simp only [Sem.run_map, hrun, Result.andThen]
    simp only [Instr.build, Sem.run_bind, run_zero hz, Result.andThen, run_underlying hu]
    rw [hrun']
    simp only [Array.toArray_toList, List.getElem?_toArray] at g1
    simp [g1]
  · rename_i n e hu
    cases hs : szOf P e with
    | none => simp [hs] at hp
    | some s =>
      simp only [hs, Option.map_some, Option.some.injEq] at hp
      subst hp
      obtain ⟨r', g1, g2⟩ := fillC_sound (m := m) (fun i => some (i * s, s)) ps ps' _ z.cells.toList z.cells.toList cs hi hv (fun i a ha => ⟨a.1 * s, s, rfl, by simp [ha]⟩) (by simp) hzr h
      refine ⟨.agg r', ?_, .agg' (by simpa using g2)⟩
      simp only [Array.toArray_toList] at g1
      simp [Instr.build, run_zero hz, run_underlying hu, run_size hs, g1]
  · cases hp

theorem rep_rel {m : Mp} {l l' : List Value} (h : LRel m l l') : ∀ n, LRel m (rep n l) (rep n l')
  | 0 => LRel.nil
  | n + 1 => h.append (rep_rel h n)
theorem rep_length {l : List Value} : ∀ n, (rep n l).length = n * l.length
  | 0 => by simp [rep]
  | n + 1 => by simp [rep, rep_length n, Nat.add_mul]; omega
theorem rep_get {l : List Value} (hl : 0 < l.length) : ∀ (n i : Nat), i < n * l.length → (rep n l)[i]? = l[i % l.length]?
  | 0, i, h => by simp at h
  | n + 1, i, h => by
    simp only [rep]
    by_cases hi : i < l.length
    · rw [List.getElem?_append_left hi, Nat.mod_eq_of_lt hi]
    · rw [List.getElem?_append_right (by omega), rep_get hl n _ (by rw [Nat.succ_mul] at h; omega), Nat.mod_eq_sub_mod (a := i) (b := l.length) (by omega)]
theorem rep_array {z : Array Value} (hz : 0 < z.size) (n : Nat) : ((Array.range (n * z.size)).map (z[· % z.size]!)).toList = rep n z.toList := by
  apply List.ext_getElem?
  intro i
  by_cases hi : i < n * z.size
  · rw [rep_get (by simpa using hz) n i (by simpa using hi)]
    have hm : i % z.size < z.size := Nat.mod_lt _ hz
    simp [hi, hm, getElem!_def]
  · rw [List.getElem?_eq_none (by simp; omega), List.getElem?_eq_none (by rw [rep_length]; simp; omega)]

theorem buildSlice_sound {P : Program} {m : Mp} {H H' : Heap} {w : World} {t e : TypeId} {len sz : Nat} {ps ps' : List (Nat × Value)} {z v : Value} {cs : List Value} (hr : HRel m H w) (hlow : MLow m H.n) (hi : ps.map (·.1) = ps'.map (·.1)) (hv : LRel m (ps.map (·.2)) (ps'.map (·.2)))
    (hu : P.underlying t = some (.slice e)) (hs : szOf P e = some sz) (hz : zeroOf P e = some z) (hzf : flat z = true) (hzs : z.cells.size = sz) (hp : 0 < sz) (hsz : len * sz ≤ 16777216)
    (h : fillC (rep len z.cells.toList) (ps.map fun x => (x.1 * sz, sz, x.2)) = some cs) (hn : newS sz len len cs H = some (v, H')) :
    ∃ m' v' w', (Instr.buildSlice t len ps'.toArray).run P w = .ok v' w' ∧ VRel m' v v' ∧ Step m H w m' H' w' := by
  have hzr : LRel m z.cells.toList z.cells.toList := (VRel.ofFlat hzf).cells
  obtain ⟨r', g1, g2⟩ := fillC_sound (m := m) (fun i => some (i * sz, sz)) ps ps' _ (rep len z.cells.toList) (rep len z.cells.toList) cs hi hv (fun i a ha => ⟨a.1 * sz, sz, rfl, by simp [ha]⟩) (by simp) (rep_rel hzr len) h
  obtain ⟨m', v', w', q1, q2, q3⟩ := newS_sound (P := P) (t := e) hr hlow (by simpa using g2) hn (Nat.le_refl _)
  refine ⟨m', v', w', ?_, q2, q3⟩
  have hbig : ¬ (16777216 < len * sz) := by omega
  have harr : (if len * sz = 0 then (#[] : Array Value) else z.cells) = z.cells ∨ len = 0 := by
    by_cases h0 : len * sz = 0
    · right
      rcases Nat.mul_eq_zero.1 h0 with h0 | h0 <;> omega
    · left; rw [if_neg h0]
  have hcells : ∀ y : Array Value, (y = z.cells ∨ len = 0) → ((Array.range (len * sz)).map (y[· % y.size]!)) = (rep len z.cells.toList).toArray := fun y hy => by
    rcases hy with rfl | rfl
    · apply Array.ext'
      rw [← hzs, rep_array (by omega)]
    · simp [rep]
  simp only [Array.toArray_toList] at q1
  by_cases h0 : len * sz = 0
  · have hl0 : len = 0 := by rcases Nat.mul_eq_zero.1 h0 with h0 | h0 <;> omega
    subst hl0
    simp only [rep] at g1
    have hd : (Array.map (fun _ : Nat => (default : Value)) (Array.range 0)) = #[] := by simp
    simp [Instr.buildSlice, run_underlying hu, run_size hs] at q1 ⊢
    rw [hd]
    have g1' : Instr.fill (fun i => some (i * sz, sz)) #[] ps' = some r' := g1
    rw [g1']
    simpa using q1
  · have hc := hcells z.cells (.inl rfl)
    simp only [Instr.buildSlice, Sem.run_bind, run_underlying hu, Result.andThen, run_size hs]
    simp [hbig, h0, run_zero hz, hc, g1] at q1 ⊢
    exact q1


theorem makeSlice_sound {P : Program} {m : Mp} {H H' : Heap} {w : World} {t e : TypeId} {sz by_ : Nat} {n c : Int} {z v : Value} (hr : HRel m H w) (hlow : MLow m H.n)
    (hu : P.underlying t = some (.slice e)) (hs : szOf P e = some sz) (hz : zeroOf P e = some z) (hb : bytesOf P e = some by_) (hzf : flat z = true) (hzs : z.cells.size = sz) (h0 : 0 ≤ n) (hnc : n ≤ c) (hc : (by_ : Int) * c ≤ 140737488355328) (hc63 : c < 9223372036854775808)
    (hp : 0 < sz) (hn : newS sz n.toNat c.toNat (rep c.toNat z.cells.toList) H = some (v, H')) :
    ∃ m' v' w', (Instr.makeSlice t (.int .i64 n) (.int .i64 c)).run P w = .ok v' w' ∧ VRel m' v v' ∧ Step m H w m' H' w' := by
  have hzr : LRel m z.cells.toList z.cells.toList := (VRel.ofFlat hzf).cells
  obtain ⟨m', v', w', q1, q2, q3⟩ := newS_sound (P := P) (t := e) hr hlow (rep_rel hzr c.toNat) hn (by omega)
  refine ⟨m', v', w', ?_, q2, q3⟩
  obtain ⟨i, hi, hib⟩ := run_bytes hb w
  have hwn : IntKind.i64.wrap n = n := i64_in n (by omega)
  have hwc : IntKind.i64.wrap c = c := i64_in c (by omega)
  subst hib
  have c1 : ¬ (c < 0) := by omega
  have c2 : ¬ (281474976710656 < (i.bytes : Int) * c) := by omega
  have c3 : ¬ (n < 0) := by omega
  have c4 : ¬ (c < n) := by omega
  have hcells : ∀ y : Array Value, (y = z.cells ∨ c.toNat = 0) → ((Array.range (c.toNat * sz)).map (y[· % y.size]!)) = (rep c.toNat z.cells.toList).toArray := fun y hy => by
    rcases hy with rfl | hy
    · apply Array.ext'
      rw [← hzs, rep_array (by omega)]
    · simp [rep, hy]
  by_cases h0 : c.toNat * sz = 0
  · have hl0 : c.toNat = 0 := by rcases Nat.mul_eq_zero.1 h0 with h0 | h0 <;> omega
    have hd := hcells #[] (.inr hl0)
    simp [Instr.makeSlice, run_underlying hu, asInt, asIntOf, hi, hwn, hwc, c1, c2, c3, c4, run_size hs, h0] at q1 ⊢
    rw [h0] at hd
    simp at hd
    rw [hd]
    exact q1
  · have hd := hcells z.cells (.inl rfl)
    simp [Instr.makeSlice, run_underlying hu, asInt, asIntOf, hi, hwn, hwc, c1, c2, c3, c4, run_size hs, h0, run_zero hz, hd] at q1 ⊢
    exact q1

theorem appZ_sound {P : Program} {m : Mp} {H H' : Heap} {w : World} {s s' x x' v : Value} {sz by_ : Nat} {t ty e : TypeId} {ts : Array TypeId} {z : Value} {q : IntKind} {t2 : TypeId} (hr : HRel m H w) (hl : MLow m H.n)
    (hs : VRel m s s') (hx : VRel m x x') (h : appZ sz by_ z.cells.toList s x H = some (v, H')) (h0 : ts[0]? = some t) (hu : P.underlying t = some (.slice e)) (hsz : szOf P e = some sz) (hby : bytesOf P e = some by_)
    (hz : zeroOf P e = some z) (hzs : z.cells.size = sz) (hb0 : 0 < by_) (hsz0 : 0 < sz) (h2 : ts[1]? = some t2) (hu2 : P.underlying t2 = some (.int q)) :
    ∃ m' v' w', (Builtin.append_ ts ty #[s', x']).run P w = .ok v' w' ∧ VRel m' v v' ∧ Step m H w m' H' w' := by
  unfold appZ at h
  split at h
  case h_2 => cases h
  rename_i n
  split at h
  case isFalse => cases h
  rename_i hc
  obtain ⟨c1, c2, c3, c4⟩ := hc
  simp only [Option.some.injEq, Prod.mk.injEq] at h
  obtain ⟨rfl, rfl⟩ := h
  obtain ⟨_, _, rfl⟩ := hs.slice_nil_inv
  obtain rfl := hx.int_inv
  obtain ⟨i, hi, hib⟩ := run_bytes hby w
  have hi' : P.info? e = some i := by
    unfold bytesOf at hby
    cases h : P.info? e with
    | none => simp [h] at hby
    | some j =>
      rw [run_typeInfo w h] at hi
      injection hi with hi; rw [hi]
  have hty : ∀ w : World, (typeInfo e).run P w = .ok i w := fun w => run_typeInfo w hi'
  obtain ⟨k, rfl⟩ : ∃ k : Nat, n = k := ⟨n.toNat, by omega⟩
  simp only [Int.toNat_natCast] at c3 ⊢
  have hk : 0 < k := by omega
  have hmb : mostBytes = 140737488355328 := rfl
  have hkb : k ≤ k * by_ := Nat.le_mul_of_pos_right _ hb0
  have hw : IntKind.i64.wrap (k : Int) = k := i64_in _ (by omega)
  have n1 : ¬ ((k : Int) < 0) := by omega
  have n2 : ¬ ((281474976710656 : Int) < (k : Int) * (i.bytes : Int)) := by rw [hib]; omega
  have n3 : ¬ (k * sz = 0) := by
    intro h
    rcases Nat.mul_eq_zero.1 h with h | h <;> omega
  have n4 : ¬ ((9223372036854775807 : Int) < (k : Int)) := by omega
  have n5 : ¬ (281474976710656 < Builtin.nextslicecap k 0 * i.bytes) := by
    rw [hib]
    have := growslice_fits (bytes := by_) (old := 0) (show 0 < k from hk) c3
    omega
  have hge : k ≤ (Question.appendCap k 0 e).cut (w.tape w.drawn (.appendCap k 0 e)) := by simp [Question.cut]
  have hrel : LRel m (rep k z.cells.toList) (rep k z.cells.toList) := rep_rel ((VRel.ofFlat (zeroOf_inv hz).2).cells) k
  have hone : (rep k z.cells.toList).all oneC = true := by
    have : ∀ j, (rep j z.cells.toList).all oneC = true := by
      intro j
      induction j with
      | zero => rfl
      | succ j ih => simp only [rep, List.all_append, c4, ih]; rfl
    exact this k
  obtain ⟨nc, hnc⟩ : ∃ nc, (Question.appendCap k 0 e).cut (w.tape w.drawn (.appendCap k 0 e)) = nc := ⟨_, rfl⟩
  rw [hnc] at hge
  have hcells : Builtin.zeroCells z.cells k = (rep k z.cells.toList).toArray := by
    apply Array.ext'
    unfold Builtin.zeroCells
    rw [rep_array (by omega)]
  have hrun : (Builtin.append_ ts ty #[.slice none 0 0, .int .i64 (k : Int)]).run P w = .ok (.slice (some ⟨w.heap.size, 0, none⟩) k nc) (w.drew.alloc (.cells ((rep k z.cells.toList).toArray ++ Builtin.zeroCells z.cells (nc - k)) e)) := by
    simp only [Builtin.append_, h0, h2]
    simp [run_size hsz, run_underlying hu, run_underlying hu2, hty, asInt, asIntOf, hw, n1, n2, n3, n4, n5, Question.forced, Builtin.firstCells, run_zero hz, newRow, hnc, hcells, Nat.ne_of_gt hk]
  refine ⟨mput m H.n ⟨w.heap.size, 0, nc - k⟩, _, _, hrun, ?_, ?_⟩
  · have := VRel.slc (m := mput m H.n ⟨w.heap.size, 0, nc - k⟩) (b := H.n) (o := 0) (p := ⟨w.heap.size, 0, nc - k⟩) (len := k) (cap := k) (cap' := nc) (by simp [mput]) hge (by simp only; omega) (Nat.le_refl _)
    simpa using this
  · refine Step.new hr hl (l := rep k z.cells.toList) (l' := rep k z.cells.toList) (cs := (rep k z.cells.toList).toArray ++ Builtin.zeroCells z.cells (nc - k)) (e := e) (fr := (0, 0)) hrel hone ?_ ?_ (.inl rfl) rfl rfl rfl rfl
    · simp only [Array.size_append, List.size_toArray, zeros_size, hzs]
      omega
    · intro j v hj
      have := (List.getElem?_eq_some_iff.1 hj).1
      rw [Array.getElem?_append_left (by simpa using this)]
      simpa using hj

end Go.Eng
