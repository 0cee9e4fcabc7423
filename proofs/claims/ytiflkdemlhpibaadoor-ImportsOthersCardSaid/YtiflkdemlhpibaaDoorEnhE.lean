/- Copy, strings, addresses, parts. -/
import Derived.Test.YtiflkdemlhpibaaDoorEnhD
set_option linter.unusedVariables false
namespace Go.Eng
open Go

theorem LRel.eq_flat {m : Mp} {l l' : List Value} (h : LRel m l l') (hf : l.all flat1 = true) : l' = l := by
  induction l generalizing l' with
  | nil => exact h.cases_nil
  | cons v l ih =>
    obtain ⟨v', r', rfl, h1, h2⟩ := h.cases_cons
    simp only [List.all_cons, Bool.and_eq_true] at hf
    rw [h1.eq_of_flat1 hf.1, ih h2 hf.2]

theorem cpy_sound {P : Program} {m : Mp} {H H' : Heap} {w : World} {d d' x x' v : Value} {sz : Nat} {t ty e : TypeId} {ts : Array TypeId} (hr : HRel m H w)
    (hd : VRel m d d') (hx : VRel m x x') (h : cpy sz d x H = some (v, H')) (h0 : ts[0]? = some t) (hu : P.underlying t = some (.slice e)) (hsz : szOf P e = some sz) :
    ∃ w', (Builtin.copy_ ts ty #[d', x']).run P w = .ok v w' ∧ VRel m v v ∧ Step m H w m H' w' := by
  unfold cpy at h
  split at h
  case h_2 => cases h
  rename_i base len cap n cs hadd
  obtain ⟨hlen, cs', hrel, hcl, hfirst⟩ := addend_sound (P := P) hr hx hadd
  have hk := hfirst (Nat.min n len) (Nat.min_le_left _ _) w rfl
  have hone : cs.all Eng.oneC = true := by
    unfold addend at hadd
    split at hadd
    · split at hadd
      · simp only [Option.some.injEq, Prod.mk.injEq] at hadd; rw [← hadd.2]; rfl
      · cases hadd
    · split at hadd
      · simp only [Option.some.injEq, Prod.mk.injEq] at hadd; rw [← hadd.2]; rfl
      split at hadd
      · rename_i blk hb
        split at hadd
        · simp only [Option.some.injEq, Prod.mk.injEq] at hadd
          rw [← hadd.2, List.all_eq_true]
          have := hr.one _ _ hb
          rw [List.all_eq_true] at this
          exact fun y hy => this y (List.mem_of_mem_drop (List.mem_of_mem_take hy))
        · cases hadd
      · cases hadd
    · split at hadd
      case isFalse => cases hadd
      simp only [Option.some.injEq, Prod.mk.injEq] at hadd
      rw [← hadd.2, List.all_eq_true]
      intro y hy
      obtain ⟨c, _, rfl⟩ := List.mem_map.1 hy
      rfl
    · cases hadd
  have run : ∀ (base' : Option Addr) (cap' : Nat), d' = .slice base' len cap' → (Builtin.copy_ ts ty #[d', x']).run P w =
      match base' with
      | some a => ((storeCells a (cs'.take (Nat.min n len * sz))).run P w).andThen fun _ w' => .ok (.int .i64 (Nat.min n len)) w'
      | none => .ok (.int .i64 (Nat.min n len)) w := fun base' cap' he => by
    subst he
    simp only [Builtin.copy_, h0]
    simp [run_underlying hu, hlen, run_size hsz, hk, goInt]
    cases base' <;> simp
  cases base with
  | none =>
    simp only [Option.some.injEq, Prod.mk.injEq] at h
    obtain ⟨rfl, rfl⟩ := h
    obtain ⟨rfl, rfl, rfl⟩ := hd.slice_nil_inv
    exact ⟨w, run _ _ rfl, .flat rfl, Step.refl hr⟩
  | some a =>
    obtain ⟨b, o, sp⟩ := a
    simp only at h
    split at h
    case h_2 => cases h
    rename_i blk hb
    split at h
    case isFalse => cases h
    rename_i hc
    obtain ⟨ho, hle⟩ := hc
    obtain ⟨ho, hpl⟩ := Blk.w_iff.1 ho
    simp only [Option.some.injEq, Prod.mk.injEq] at h
    obtain ⟨rfl, rfl⟩ := h
    have htl : (cs.take (Nat.min n len * sz)).length = Nat.min n len * sz := by
      rw [List.length_take, hcl]
      exact Nat.min_eq_left (Nat.mul_le_mul_right sz (Nat.min_le_left n len))
    have hto : (cs.take (Nat.min n len * sz)).all Eng.oneC = true := by
      rw [List.all_eq_true] at hone ⊢
      exact fun y hy => hone y (List.mem_of_mem_take hy)
    rcases hd.slice_inv with ⟨rfl, _, a', rfl⟩ | ⟨p, cap', hp, rfl, g1, g2, g3, g4⟩
    · refine ⟨w, by rw [run _ _ rfl]; simp [storeCells], .flat rfl, ?_⟩
      have hz : cs.take (Nat.min n 0 * sz) = [] := by simp
      rw [hz]
      have : H.upd b (some ⟨splice blk.cells o [], blk.sz, true⟩) = H := by
        simp only [Heap.upd, splice, List.append_nil, List.length_nil, Nat.add_zero, List.take_append_drop]
        rw [Blk.eta' ho hpl]
        congr 1
        funext i
        split
        · rename_i he; subst he; rw [hb]
        · rfl
      rw [this]
      exact Step.refl hr
    · obtain ⟨cs0, e0, fr0, hh, hsz0, hc0, hf0⟩ := (hr.blk b blk p hb hp).plain hpl
      have htl' : (cs'.take (Nat.min n len * sz)).length = Nat.min n len * sz := by rw [← (hrel.take _).1]; exact htl
      have hst := run_storeCells_spl (P := P) (g := p.blk) (o := p.off + o) (e := e0) (fr := fr0) (cs'.take (Nat.min n len * sz)) 0 cs0 w hh
        (by have := Nat.le_trans (Nat.le_add_right _ _) hsz0; omega) (fun j h1 h2 => (hf0 ho).not (by have := Nat.zero_le (p.room * blk.sz); omega)) ((hrel.take _).allOne hto)
      refine ⟨_, by rw [run _ _ rfl]; simp only [hst, Result.andThen, Nat.add_zero], .flat rfl, Step.write hr hb ho hp hh (by omega) (hrel.take _) hto⟩

theorem bytes_flat : ∀ {l : List Value} {r : List UInt8}, l.mapM byteOf = some r → l.all flat1 = true ∧ ∃ ns : List Int, l = ns.map (Value.int .u8) ∧ r = ns.map fun n => UInt8.ofNat n.toNat
  | [], r, h => by simp at h; subst h; exact ⟨rfl, [], rfl, rfl⟩
  | v :: l, r, h => by
    rw [List.mapM_cons] at h
    cases hv : byteOf v with
    | none => simp [hv] at h
    | some c =>
      cases hl : l.mapM byteOf with
      | none => simp [hv, hl] at h
      | some r' =>
        simp [hv, hl] at h
        subst h
        obtain ⟨h1, ns, rfl, rfl⟩ := bytes_flat hl
        unfold byteOf at hv
        split at hv
        · rename_i n
          simp only [Option.some.injEq] at hv
          subst hv
          exact ⟨by simp only [List.all_cons, h1, Bool.and_true]; rfl, n :: ns, rfl, rfl⟩
        · cases hv

theorem foldl_push : ∀ (ns : List Int) (r : ByteArray), ns.foldl (fun r n => r.push (UInt8.ofNat n.toNat)) r = ⟨r.data ++ (ns.map fun n => UInt8.ofNat n.toNat).toArray⟩
  | [], r => by simp
  | n :: ns, r => by
    simp only [List.foldl_cons]
    rw [foldl_push ns]
    simp [ByteArray.push]

theorem toStr_sound {P : Program} {m : Mp} {H H' : Heap} {w : World} {x x' v : Value} {src dst e : TypeId} (hr : HRel m H w) (hx : VRel m x x') (h : toStr x H = some (v, H'))
    (hs : P.underlying src = some (.slice e)) (he : P.underlying e = some (.int .u8)) (hd : P.underlying dst = some .string) : H' = H ∧ (convert src dst x').run P w = .ok v w ∧ VRel m v v := by
  unfold toStr at h
  split at h
  · simp only [Option.some.injEq, Prod.mk.injEq] at h
    obtain ⟨rfl, rfl⟩ := h
    obtain ⟨_, _, rfl⟩ := hx.slice_nil_inv
    exact ⟨rfl, by rw [run_convert_bytes_string w src dst e _ _ _ hs he hd]; simp [Conv.bytesToString], .flat rfl⟩
  · rename_i b o sp n cap
    split at h
    · rename_i hn
      simp only [Option.some.injEq, Prod.mk.injEq] at h
      obtain ⟨rfl, rfl⟩ := h
      have hz : ∃ a' cap', x' = .slice (some a') 0 cap' := by
        rcases hx.slice_inv with ⟨_, _, a', rfl⟩ | ⟨p, cap', hp, rfl, _⟩
        · exact ⟨a', 0, rfl⟩
        · exact ⟨_, cap', by rw [hn]⟩
      obtain ⟨a', cap', rfl⟩ := hz
      refine ⟨rfl, ?_, .flat rfl⟩
      rw [run_convert_bytes_string w src dst e _ _ _ hs he hd, run_bytesToString w a' 0 cap' [] (by simp [loadCells, loadCellsFrom])]
      rfl
    split at h
    case h_2 => cases h
    rename_i blk hb
    split at h
    case isFalse => cases h
    rename_i hle
    split at h
    case h_2 => cases h
    rename_i l hl
    simp only [Option.some.injEq, Prod.mk.injEq] at h
    obtain ⟨rfl, rfl⟩ := h
    obtain ⟨hfl, ns, hns, rfl⟩ := bytes_flat hl
    refine ⟨rfl, ?_, .flat rfl⟩
    have key : ∀ (a : Addr) (cap' : Nat), (loadCells a n).run P w = .ok (ns.map (Value.int .u8)).toArray w → (convert src dst (.slice (some a) n cap')).run P w = .ok (.string ⟨(ns.map fun n => UInt8.ofNat n.toNat).toArray⟩) w := fun a cap' hload => by
      rw [run_convert_bytes_string w src dst e _ _ _ hs he hd, run_bytesToString w a n cap' ns hload, foldl_push]
      simp
    rcases hx.slice_inv with ⟨rfl, _, a', rfl⟩ | ⟨p, cap', hp, rfl, g1, g2, g3, g4⟩
    · have : ns = [] := by
        have := congrArg List.length hns
        simp [cut] at this
        exact List.eq_nil_of_length_eq_zero (by simpa using this.symm)
      subst this
      exact key a' 0 (by simp [loadCells, loadCellsFrom])
    · obtain ⟨l', k1, k2, k3⟩ := hr.cells hb hp hle
      refine key _ _ ?_
      rw [← hns, ← k2.eq_flat hfl]
      exact run_cells k1 k3
  · cases h


theorem ofStr_sound {P : Program} {m : Mp} {H H' : Heap} {w : World} {x x' v : Value} {src dst e : TypeId} (hr : HRel m H w) (hl : MLow m H.n) (hx : VRel m x x') (h : ofStr x H = some (v, H'))
    (hs : P.underlying src = some .string) (he : P.underlying e = some (.int .u8)) (hd : P.underlying dst = some (.slice e)) :
    ∃ m' v' w', (convert src dst x').run P w = .ok v' w' ∧ VRel m' v v' ∧ Step m H w m' H' w' := by
  unfold ofStr at h
  split at h
  case h_2 => cases h
  rename_i s
  split at h
  case isFalse => cases h
  simp only [Option.some.injEq, Prod.mk.injEq] at h
  obtain ⟨rfl, rfl⟩ := h
  obtain rfl := hx.string_inv
  have hrun := run_bytes_of_string w src dst e s hs hd he
  have hge : s.size ≤ grownCap w s.size 0 e := by simp [grownCap, Question.cut]
  have hsz : (bytesRow s (grownCap w s.size 0 e)).size = grownCap w s.size 0 e := by
    simp only [bytesRow, Array.size_append, Array.size_map, Array.size_replicate]
    show s.data.size + _ = _
    have : s.data.size = s.size := rfl
    omega
  have hfl : ∀ l : List UInt8, LRel m (l.map fun c => Value.int .u8 c.toNat) (l.map fun c => Value.int .u8 c.toNat) := fun l => by
    induction l with
    | nil => exact LRel.nil
    | cons c l ih => exact LRel.cons (.flat rfl) ih
  have hlen : s.data.toList.length = s.size := by simp
  refine ⟨mput m H.n ⟨w.heap.size, 0, grownCap w s.size 0 e - s.size⟩, _, _, hrun, ?_, Step.new hr hl (sz := 1) (room := grownCap w s.size 0 e - s.size) (hfl _) ?_ ?_ ?_ ?_ rfl rfl rfl rfl⟩
  · have := VRel.slc (m := mput m H.n ⟨w.heap.size, 0, grownCap w s.size 0 e - s.size⟩) (b := H.n) (o := 0) (p := ⟨w.heap.size, 0, grownCap w s.size 0 e - s.size⟩) (len := s.size) (cap := s.size) (cap' := grownCap w s.size 0 e) (by simp [mput]) hge (by simp only; omega) (Nat.le_refl _)
    simpa using this
  · rw [List.all_eq_true]
    intro y hy
    obtain ⟨c, _, rfl⟩ := List.mem_map.1 hy
    rfl
  · rw [List.length_map, hlen, hsz]; omega
  · intro i v hv
    have hi : i < (s.data.toList.map fun c => Value.int .u8 c.toNat).length := (List.getElem?_eq_some_iff.1 hv).1
    unfold bytesRow
    rw [Array.getElem?_append_left (by simpa using hi)]
    simpa using hv
  · right
    rw [List.length_map, hlen]
    simp only [hsz]
    omega

/-! ### addresses and parts -/
theorem run_under {P : Program} {t : TypeId} {d : TypeDesc} (h : P.underlying t = some d) (w : World) : (underlying t).run P w = .ok d w := run_underlying h w

theorem fAddr_sound {P : Program} {m : Mp} {w : World} {a a' v : Value} {s : TypeId} {fs : Array Field} {f k : Nat} {fl : Field} (ha : VRel m a a') (hu : P.underlying s = some (.struct fs)) (hf : fs[f]? = some fl)
    (hk : szOf P fl.type = some (k + 1)) (h : fAddr fl.offset a = some v) : ∃ v', (Instr.fieldAt s a' f).run P w = .ok v' w ∧ VRel m v v' := by
  unfold fAddr at h
  split at h
  case h_2 => cases h
  rename_i b o
  simp only [Option.some.injEq] at h
  subst h
  obtain ⟨p, hp, rfl⟩ := ha.ptr_inv
  refine ⟨.pointer (some ⟨p.blk, p.off + (o + fl.offset), none⟩), ?_, .ptr hp⟩
  simp [Instr.fieldAt, run_underlying hu, hf, Instr.sureAddr, fieldPlace, run_size hk, add_plain, Nat.add_assoc]
theorem iAddrS_sound {P : Program} {m : Mp} {w : World} {x x' i i' v : Value} {t e : TypeId} {sz : Nat} (hx : VRel m x x') (hi : VRel m i i') (hu : P.underlying t = some (.slice e)) (hk : szOf P e = some sz)
    (h : iAddrS sz x i = some v) : ∃ v', (Instr.indexAt t x' i').run P w = .ok v' w ∧ VRel m v v' := by
  unfold iAddrS at h
  split at h
  case h_2 => cases h
  rename_i b o sp len cap k n
  split at h
  case isFalse => cases h
  rename_i hc
  simp only [Option.some.injEq] at h
  subst h
  obtain rfl := hi.int_inv
  rcases hx.slice_inv with ⟨rfl, _, a', rfl⟩ | ⟨p, cap', hp, rfl, g1, g2, g3, g4⟩
  · exact absurd hc (by omega)
  · refine ⟨.pointer (some ⟨p.blk, p.off + (o + n.toNat * sz), none⟩), ?_, .ptr hp⟩
    simp [Instr.indexAt, asIntOf, run_underlying hu, run_size hk, hc.1, hc.2, add_plain, Nat.add_assoc]
theorem iAddrA_sound {P : Program} {m : Mp} {w : World} {x x' i i' v : Value} {t e : TypeId} {len sz : Nat} (hx : VRel m x x') (hi : VRel m i i') (hu : P.underlying t = some (.array len e)) (hk : szOf P e = some sz)
    (h : iAddrA len sz x i = some v) : ∃ v', (Instr.indexAt t x' i').run P w = .ok v' w ∧ VRel m v v' := by
  unfold iAddrA at h
  split at h
  case h_2 => cases h
  rename_i b o k n
  split at h
  case isFalse => cases h
  rename_i hc
  simp only [Option.some.injEq] at h
  subst h
  obtain rfl := hi.int_inv
  obtain ⟨p, hp, rfl⟩ := hx.ptr_inv
  refine ⟨.pointer (some ⟨p.blk, p.off + (o + n.toNat * sz), none⟩), ?_, .ptr hp⟩
  simp [Instr.indexAt, asIntOf, run_underlying hu, run_size hk, hc.1, hc.2, Instr.sureAddr, add_plain, Nat.add_assoc]
theorem partV_sound {P : Program} {m : Mp} {w : World} {cs cs' : Array Value} {v : Value} {t : TypeId} {ag : Bool} {k off : Nat} (hx : LRel m cs.toList cs'.toList) (ha : isAggT P t = some ag) (hk : szOf P t = some k)
    (h : partV ag k off (.agg cs) = some v) : ∃ v', (part t cs' off).run P w = .ok v' w ∧ VRel m v v' := by
  simp only [partV] at h
  split at h
  · rename_i hag
    split at h
    case isFalse => cases h
    simp only [Option.some.injEq] at h
    subst h
    refine ⟨.agg (cs'.extract off (off + k)), ?_, ?_⟩
    · simp [part, run_isAgg ha, hag, run_size hk]
    · refine .agg' ?_
      simp only [Array.toList_extract]
      have := hx.cut off k
      simpa [cut, List.extract_eq_take_drop] using this
  · rename_i hag
    have hag : ag = false := by simpa using hag
    obtain ⟨v', g1, g2⟩ := hx.get h
    refine ⟨v', ?_, g2⟩
    rw [Array.getElem?_toList] at g1
    simp [part, run_isAgg ha, hag, g1]
theorem VRel.agg_inv {m : Mp} {cs : Array Value} {v' : Value} (h : VRel m (.agg cs) v') : ∃ cs', v' = .agg cs' ∧ LRel m cs.toList cs'.toList := by
  cases h with
  | agg a b => exact ⟨_, rfl, a, b⟩
  | flat h => simp [flat1] at h
theorem VRel.tuple_inv {m : Mp} {cs : Array Value} {v' : Value} (h : VRel m (.tuple cs) v') : ∃ cs', v' = .tuple cs' ∧ LRel m cs.toList cs'.toList := by
  cases h with
  | tuple a b => exact ⟨_, rfl, a, b⟩
  | flat h => simp [flat1] at h
theorem idxA_sound {P : Program} {m : Mp} {w : World} {x x' i i' v : Value} {t e : TypeId} {len sz : Nat} {ag : Bool} (hx : VRel m x x') (hi : VRel m i i') (hu : P.underlying t = some (.array len e)) (ha : isAggT P e = some ag) (hk : szOf P e = some sz)
    (h : idxA ag len sz x i = some v) : ∃ v', (Instr.index t x' i').run P w = .ok v' w ∧ VRel m v v' := by
  unfold idxA at h
  split at h
  case h_2 => cases h
  rename_i k n
  split at h
  case isFalse => cases h
  rename_i hc
  obtain rfl := hi.int_inv
  cases x <;> first | (simp [partV] at h; done) | skip
  rename_i cs
  obtain ⟨cs', rfl, hl⟩ := hx.agg_inv
  obtain ⟨v', g1, g2⟩ := partV_sound (P := P) (w := w) hl ha hk h
  exact ⟨v', by simp [Instr.index, asIntOf, run_underlying hu, run_size hk, hc.1, hc.2, g1], g2⟩
theorem idxS_sound {P : Program} {m : Mp} {w : World} {x x' i i' v : Value} {t : TypeId} (hx : VRel m x x') (hi : VRel m i i') (hu : P.underlying t = some .string)
    (h : idxS x i = some v) : (Instr.index t x' i').run P w = .ok v w ∧ VRel m v v := by
  unfold idxS at h
  split at h
  case h_2 => cases h
  rename_i s k n
  split at h
  case isFalse => cases h
  rename_i hc
  obtain rfl := hi.int_inv
  obtain rfl := hx.string_inv
  cases hs : s.data.toList[n.toNat]? with
  | none => simp [hs] at h
  | some c =>
    simp only [hs, Option.map_some, Option.some.injEq] at h
    subst h
    have : s[n.toNat]? = some c := by
      have hlt := (List.getElem?_eq_some_iff.1 hs).1
      have hlt' : n.toNat < s.size := by simpa using hlt
      rw [getElem?_pos s n.toNat hlt']
      have := (List.getElem?_eq_some_iff.1 hs).2
      congr 1
    exact ⟨by simp [Instr.index, asIntOf, run_underlying hu, hc, this], .flat rfl⟩

/-- A literal's row is given its own type once more: it's marked behind its last cell. -/
theorem mark_sound {P : Program} {m : Mp} {H H' : Heap} {w : World} {x x' v : Value} {t e : TypeId} (hr : HRel m H w) (hx : VRel m x x') (h : markV x H = some (v, H'))
    (hs : P.underlying t = some (.slice e)) (he : P.underlying e = some (.int .u8)) : ∃ v' w', (convert t t x').run P w = .ok v' w' ∧ VRel m v v' ∧ Step m H w m H' w' := by
  unfold markV at h
  split at h
  case h_2 => cases h
  rename_i b o n c
  split at h
  case h_2 => cases h
  rename_i blk hb
  split at h
  case isFalse => cases h
  rename_i hc
  obtain ⟨ho, hc0⟩ := hc
  simp only [Option.some.injEq, Prod.mk.injEq] at h
  obtain ⟨rfl, rfl⟩ := h
  rcases hx.slice_inv with ⟨_, rfl, a', rfl⟩ | ⟨p, cap', hp, rfl, g1, g2, g3, g4⟩
  · omega
  obtain ⟨ho, hpl⟩ := Blk.w_iff.1 ho
  obtain ⟨cs0, e0, fr0, hh, hsz0, hc0', hf0⟩ := (hr.blk b blk p hb hp).plain hpl
  have hg : p.blk < w.heap.size := (Array.getElem?_eq_some_iff.1 hh).1
  have hsh : w.shape? p.blk = some (e0, cs0.size) := by unfold World.shape?; rw [hh]
  have hz := hf0 ho
  obtain ⟨lo, hi⟩ := fr0
  have hfr : w.freeze ⟨p.blk, cs0.size, none⟩ 1 = wput w p.blk cs0 e0 (if lo == hi then (cs0.size, cs0.size + 1) else (min lo cs0.size, max hi (cs0.size + 1))) := by
    unfold World.freeze wput
    rw [if_neg (by decide)]
    congr 1
    apply Array.ext_getElem?
    intro i
    rw [Array.getElem?_modify, Array.getElem?_setIfInBounds]
    by_cases hi' : p.blk = i
    · subst hi'
      simp only [if_true, hh, hg, Option.map_some]
    · simp only [if_neg hi']
  have hz' : Fz (if lo == hi then (cs0.size, cs0.size + 1) else (min lo cs0.size, max hi (cs0.size + 1))) (p.off + blk.cells.length + p.room * blk.sz) := by
    split
    · right; exact hsz0
    · rename_i hne
      right
      rcases hz with hz | hz
      · simp at hne; simp at hz; exact absurd hz hne
      · simp only at hz ⊢; omega
  refine ⟨_, w.freeze ⟨p.blk, cs0.size, none⟩ 1, ?_, hx, ?_⟩
  · simp only [convert, Sem.run_bind, run_underlying hs, run_underlying he, Result.andThen]
    simp [markStringish, hsh]
  · rw [hfr]
    generalize (if lo == hi then (cs0.size, cs0.size + 1) else (min lo cs0.size, max hi (cs0.size + 1))) = fr' at hz'
    refine ⟨fun _ _ => rfl, Nat.le_refl _, ⟨hr.low, ?_, hr.inj, hr.one, hr.froz⟩, by simp [wput], ?_, fun b blk p q1 q2 q3 _ => ⟨b, blk, p, q1, q2, q3, rfl⟩, rfl, rfl, rfl, fun _ _ _ q _ => q, fun _ _ _ q _ => q, id, fun b k h1 h2 => by have := hr.low b k h2; omega⟩
    · intro b2 k2 p2 hb2 hp2
      by_cases he2 : b2 = b
      · subst he2
        rw [hb] at hb2; injection hb2 with hb2; subst hb2
        rw [hp] at hp2; injection hp2 with hp2; subst hp2
        exact .inl ⟨hpl, cs0, e0, fr', by rw [wput_heap hg, if_pos rfl], hsz0, hc0', fun _ => hz'⟩
      · have hne : p.blk ≠ p2.blk := hr.inj b b2 blk k2 p p2 (Ne.symm he2) hb ho hb2 hp hp2
        exact (hr.blk b2 k2 p2 hb2 hp2).at (by rw [wput_heap hg, if_neg hne])
    · intro c hc hn
      rw [wput_heap hg, if_neg (hn b blk p hb ho hp)]

end Go.Eng
