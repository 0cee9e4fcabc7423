/- Order, of the reference. -/
import Derived.Test.YtiflkdemlhpibaaDoorJE
set_option linter.unusedVariables false
set_option linter.unusedSimpArgs false
set_option linter.unusedSectionVars false
set_option maxRecDepth 100000
namespace Go.Eng
open Go Go.Proofs

abbrev BL (xs : List Bool) : List Value := xs.map .bool
theorem BL_all (xs : List Bool) : (BL xs).all oneC = true := by
  rw [List.all_eq_true]
  intro v hv
  simp only [BL, List.mem_map] at hv
  obtain ⟨_, _, rfl⟩ := hv
  rfl
theorem rep_BL : ∀ n, rep n [.bool false] = BL (List.replicate n false)
  | 0 => rfl
  | n + 1 => by
    simp only [rep, List.replicate_succ, rep_BL n]
    rfl
theorem mkB_ok {N : Nat} (h : N ≤ 1000000000000) {H : Heap} : mkS 1 1 [.bool false] (.int .i64 (N : Int)) (.int .i64 (N : Int)) H = some (.slice (some ⟨H.n, 0, none⟩) N N, H.push ⟨BL (List.replicate N false), 1, true⟩) := by
  have hm : mostBytes = 140737488355328 := rfl
  simp only [mkS]
  rw [if_pos ⟨by omega, by omega, by omega, rfl, by omega, by omega⟩, rep_BL]
  simp only [newS, Int.toNat_natCast, BL_all, if_true]
theorem BL_at {xs : List Bool} {k : Nat} {v : Bool} (h : xs[k]? = some v) : (BL xs)[k]? = some (.bool v) := by simp [BL, h]
theorem BL_set {xs : List Bool} {k : Nat} {v : Bool} : (BL xs).set k (.bool v) = BL (xs.set k v) := by simp [BL, List.map_set]
def begun (st : List Nat) : List Bool := st.map fun v => decide (v ≠ 0)
def done (st : List Nat) : List Bool := st.map fun v => decide (v = 2)
/-- What is not nought stays so. -/
def Nz (a b : List Nat) : Prop := ∀ (k v : Nat), a[k]? = some v → v ≠ 0 → ∃ v', b[k]? = some v' ∧ v' ≠ 0
theorem Nz.refl (a : List Nat) : Nz a a := fun k v h h0 => ⟨v, h, h0⟩
theorem Nz.trans {a b c : List Nat} (h : Nz a b) (t : Nz b c) : Nz a c := fun k v hv h0 => by
  obtain ⟨v', h1, h2⟩ := h k v hv h0
  exact t k v' h1 h2
theorem Nz.set {a : List Nat} {i v : Nat} (hv : v ≠ 0) : Nz a (a.set i v) := fun k w hw h0 => by
  rw [List.getElem?_set]
  split
  · rename_i h; subst h
    have := (List.getElem?_eq_some_iff.1 hw).1
    exact ⟨v, by simp [this], hv⟩
  · exact ⟨w, hw, h0⟩
theorem goL_nz {l : List En} {n : Nat} (ih : ∀ (i : Nat) (s : Dfs), Nz s.st (dfs l n i s).1.st) : ∀ (ps : List (List UInt8)) (s : Dfs), Nz s.st (goL l (dfs l n) ps s).1.st
  | [], s => Nz.refl _
  | p :: ps, s => by
    simp only [goL]
    cases findN l p with
    | none => exact Nz.refl _
    | some k =>
      simp only
      split
      · exact Nz.refl _
      · split
        · exact goL_nz ih ps s
        · cases hr : (dfs l n k s).2 with
          | some e => exact ih k s
          | none => exact (ih k s).trans (goL_nz ih ps _)
theorem dfs_nz (l : List En) : ∀ (n i : Nat) (s : Dfs), Nz s.st (dfs l n i s).1.st
  | 0, i, s => Nz.refl _
  | n + 1, i, s => by
    simp only [dfs]
    split
    · exact Nz.refl _
    · have a := (Nz.set (a := s.st) (i := i) (v := 1) (by decide)).trans (goL_nz (dfs_nz l n) (impN l i) ⟨s.st.set i 1, s.many + 1, s.ord⟩)
      cases hr : (goL l (dfs l n) (impN l i) ⟨s.st.set i 1, s.many + 1, s.ord⟩).2 with
      | some e => exact a
      | none => exact a.trans (Nz.set (by decide))

abbrev BR (vf : Value) (G D n many : Nat) (vo : Value) (nm : List UInt8) (e : Int) : List Value := [vf, .slice (some ⟨G, 0, none⟩) n n, .slice (some ⟨D, 0, none⟩) n n, .int .i64 (many : Int), vo, .string (bs nm), .int .i64 e]
/-- A walk of the reference under way. -/
structure WkR (H0 H : Heap) (B G D : Nat) (vf vo : Value) (l : List En) (s : Dfs) (x : Option (List UInt8 × Int)) : Prop where
  keep : Keep (all H0) H0 H
  f : Sli (all H0) H0 l vf
  box : H.get B = some ⟨BR vf G D l.length s.many vo (errP [] x) (errI x), 1, true⟩
  bg : H.get G = some ⟨BL (begun s.st), 1, true⟩
  dn : H.get D = some ⟨BL (done s.st), 1, true⟩
  v2 : ∀ (k v : Nat), s.st[k]? = some v → v ≤ 2
  sl : s.st.length = l.length
  ord : Acc (all H0) H 1 vo s.ord.length (NI s.ord)
  lb : H0.n ≤ B ∧ B < H.n
  lg : H0.n ≤ G ∧ G < H.n
  ld : H0.n ≤ D ∧ D < H.n
  bG : B ≠ G
  bD : B ≠ D
  gD : G ≠ D
  ob : blkOf vo ≠ some B
  og : blkOf vo ≠ some G
  od : blkOf vo ≠ some D
section
variable {H0 H : Heap} {B G D : Nat} {vf vo : Value} {l : List En} {s : Dfs} {x : Option (List UInt8 × Int)}
theorem WkR.l0 (h : WkR H0 H B G D vf vo l s x) : ldC (ptr B 0) H = some (vf, H) := own_ld h.box rfl
theorem WkR.l1 (h : WkR H0 H B G D vf vo l s x) : ldC (ptr B 1) H = some (.slice (some ⟨G, 0, none⟩) l.length l.length, H) := own_ld h.box rfl
theorem WkR.l2 (h : WkR H0 H B G D vf vo l s x) : ldC (ptr B 2) H = some (.slice (some ⟨D, 0, none⟩) l.length l.length, H) := own_ld h.box rfl
theorem WkR.l3 (h : WkR H0 H B G D vf vo l s x) : ldC (ptr B 3) H = some (.int .i64 (s.many : Int), H) := own_ld h.box rfl
theorem WkR.l4 (h : WkR H0 H B G D vf vo l s x) : ldC (ptr B 4) H = some (vo, H) := own_ld h.box rfl
theorem WkR.l5 (h : WkR H0 H B G D vf vo l s x) : ldC (ptr B 5) H = some (.string (bs (errP [] x)), H) := own_ld h.box rfl
theorem WkR.l6 (h : WkR H0 H B G D vf vo l s x) : ldC (ptr B 6) H = some (.int .i64 (errI x), H) := own_ld h.box rfl
theorem WkR.bgl (h : WkR H0 H B G D vf vo l s x) {k v : Nat} (hk : s.st[k]? = some v) : ldC (ptr G k) H = some (.bool (decide (v ≠ 0)), H) := own_ld h.bg (BL_at (by simp [begun, hk]))
theorem WkR.dnl (h : WkR H0 H B G D vf vo l s x) {k v : Nat} (hk : s.st[k]? = some v) : ldC (ptr D k) H = some (.bool (decide (v = 2)), H) := own_ld h.dn (BL_at (by simp [done, hk]))
/-- A file is begun. -/
theorem WkR.mark (h : WkR H0 H B G D vf vo l s x) {i : Nat} (hi : i < l.length) (h0 : s.st[i]? = some 0) : ∃ H', stV 1 (ptr G i) (.bool true) H = some (undef, H') ∧ WkR H0 H' B G D vf vo l ⟨s.st.set i 1, s.many, s.ord⟩ x := by
  have e := stV1_box (k := i) (w := .bool true) h.bg (by simp [begun, h.sl]; exact hi) rfl rfl
  rw [BL_set] at e
  have e1 : (begun s.st).set i true = begun (s.st.set i 1) := by simp [begun, List.map_set]
  have e2 : done (s.st.set i 1) = done s.st := by
    unfold done
    rw [List.map_set]
    apply List.ext_getElem?
    intro j
    rw [List.getElem?_set]
    split
    · rename_i hj; subst hj
      obtain ⟨hl, hx⟩ := List.getElem?_eq_some_iff.1 h0; simp [hl, hx]
    · rfl
  rw [e1] at e
  refine ⟨_, e, ?_⟩
  refine ⟨keepU h.keep h.lg.1, h.f, by rw [upd_ne h.bG]; exact h.box, upd_self, by rw [upd_ne h.gD.symm, e2]; exact h.dn, fun k v hv => ?_, by simp [h.sl], h.ord.past1 h.og, h.lb, h.lg, h.ld, h.bG, h.bD, h.gD, h.ob, h.og, h.od⟩
  simp only [List.getElem?_set] at hv
  split at hv
  · split at hv
    · injection hv with hv; omega
    · cases hv
  · exact h.v2 k v hv
theorem WkR.count (h : WkR H0 H B G D vf vo l s x) {n : Nat} : ∃ H', stV 1 (ptr B 3) (.int .i64 (n : Int)) H = some (undef, H') ∧ WkR H0 H' B G D vf vo l ⟨s.st, n, s.ord⟩ x := by
  have e := stV1_box (k := 3) (w := .int .i64 (n : Int)) h.box (by simp) rfl rfl
  exact ⟨_, e, keepU h.keep h.lb.1, h.f, upd_self, by rw [upd_ne h.bG.symm]; exact h.bg, by rw [upd_ne h.bD.symm]; exact h.dn, h.v2, h.sl, h.ord.past1 h.ob, h.lb, h.lg, h.ld, h.bG, h.bD, h.gD, h.ob, h.og, h.od⟩
/-- What is wrong. -/
theorem WkR.wrong (h : WkR H0 H B G D vf vo l s x) (p : List UInt8) (k : Int) : ∃ H1 H2, stV 1 (ptr B 5) (.string (bs p)) H = some (undef, H1) ∧ stV 1 (ptr B 6) (.int .i64 k) H1 = some (undef, H2) ∧ WkR H0 H2 B G D vf vo l s (some (p, k)) := by
  have e := stV1_box (k := 5) (w := .string (bs p)) h.box (by simp) rfl rfl
  have e' := stV1_box (k := 6) (w := .int .i64 k) (upd_self (H := H) (b := B) (k := some ⟨(BR vf G D l.length s.many vo (errP [] x) (errI x)).set 5 (.string (bs p)), 1, true⟩)) (by simp) rfl rfl
  refine ⟨_, _, e, e', keepU (keepU h.keep h.lb.1) h.lb.1, h.f, upd_self, ?_, ?_, h.v2, h.sl, (h.ord.past1 h.ob).past1 h.ob, h.lb, h.lg, h.ld, h.bG, h.bD, h.gD, h.ob, h.og, h.od⟩
  · rw [upd_ne h.bG.symm, upd_ne h.bG.symm]; exact h.bg
  · rw [upd_ne h.bD.symm, upd_ne h.bD.symm]; exact h.dn
/-- A file is through. -/
theorem WkR.thru (h : WkR H0 H B G D vf vo l s none) {i : Nat} (hi : i < l.length) (hz : ∃ v, s.st[i]? = some v ∧ v ≠ 0) (hb : s.ord.length ≤ 1000000) :
    ∃ Ha vo' H1 H2, stV 1 (ptr D i) (.bool true) H = some (undef, Ha) ∧ ldC (ptr B 4) Ha = some (vo, Ha) ∧ Eng.app 1 8 vo (.slice (some ⟨Ha.n, 0, none⟩) 1 1) (Ha.push ⟨[.int .i64 (i : Int)], 1, true⟩) = some (vo', H1) ∧
      stV 1 (ptr B 4) vo' H1 = some (undef, H2) ∧ WkR H0 H2 B G D vf vo' l ⟨s.st.set i 2, s.many, s.ord ++ [i]⟩ none := by
  have hm : mostBytes = 140737488355328 := rfl
  have e := stV1_box (k := i) (w := .bool true) h.dn (by simp [done, h.sl]; exact hi) rfl rfl
  rw [BL_set] at e
  have e1 : (done s.st).set i true = done (s.st.set i 2) := by simp [done, List.map_set]
  have e2 : begun (s.st.set i 2) = begun s.st := by
    obtain ⟨v, hv, hv0⟩ := hz
    unfold begun
    rw [List.map_set]
    apply List.ext_getElem?
    intro j
    rw [List.getElem?_set]
    split
    · rename_i hj; subst hj
      obtain ⟨hl, hx⟩ := List.getElem?_eq_some_iff.1 hv; simp [hl, hx, hv0]
    · rfl
  rw [e1] at e
  have ha : WkR H0 (H.upd D (some ⟨BL (done (s.st.set i 2)), 1, true⟩)) B G D vf vo l ⟨s.st.set i 2, s.many, s.ord⟩ none := by
    refine ⟨keepU h.keep h.ld.1, h.f, by rw [upd_ne h.bD]; exact h.box, by rw [upd_ne h.gD, e2]; exact h.bg, upd_self, fun k v hv => ?_, by simp [h.sl], h.ord.past1 h.od, h.lb, h.lg, h.ld, h.bG, h.bD, h.gD, h.ob, h.og, h.od⟩
    simp only [List.getElem?_set] at hv
    split at hv
    · split at hv
      · injection hv with hv; omega
      · cases hv
    · exact h.v2 k v hv
  generalize H.upd D (some ⟨BL (done (s.st.set i 2)), 1, true⟩) = Ha at *
  have hp : Keep (all Ha) Ha (Ha.push ⟨[.int .i64 (i : Int)], 1, true⟩) := push_keep
  obtain ⟨vo', H1, g1, g2, g3, g4, g5, g6⟩ := (ha.ord.keep hp).appQ (by_ := 8) (Nat.le_trans ha.keep.1 hp.1) (addend_push (sz := 1) (n := 1) (cs := [.int .i64 (i : Int)]) rfl) rfl (by simp only; omega)
  have hB : B < Ha.n := ha.lb.2
  have hG : G < Ha.n := ha.lg.2
  have hD : D < Ha.n := ha.ld.2
  have b1 : H1.get B = Ha.get B := by rw [g4.2 B ⟨Nat.lt_of_lt_of_le hB hp.1, ha.ob⟩, push_lt hB]
  have m1 : H1.get G = Ha.get G := by rw [g4.2 G ⟨Nat.lt_of_lt_of_le hG hp.1, ha.og⟩, push_lt hG]
  have s1 : H1.get D = Ha.get D := by rw [g4.2 D ⟨Nat.lt_of_lt_of_le hD hp.1, ha.od⟩, push_lt hD]
  have n1 : Ha.n ≤ H1.n := Nat.le_trans hp.1 g4.1
  have nw : ∀ q, q < Ha.n → blkOf vo ≠ some q → blkOf vo' ≠ some q := fun q hq h1 h2 => by
    rcases g5 q h2 with h | h
    · exact h1 h
    · have := hp.1; omega
  have e3 := stV1_box (k := 4) (w := vo') (b1.trans ha.box) (by simp) g2.oneC.2 g2.oneC.1
  refine ⟨Ha, vo', H1, _, e, ha.l4, g1, e3, ?_⟩
  have K : Keep (all H0) H0 H1 := (ha.keep.trans (hp.mono fun b hb => Nat.lt_of_lt_of_le hb ha.keep.1)).trans g3
  refine ⟨keepU K h.lb.1, h.f, upd_self, by rw [upd_ne h.bG.symm, m1]; exact ha.bg, by rw [upd_ne h.bD.symm, s1]; exact ha.dn, ha.v2, ha.sl, ?_, ⟨h.lb.1, Nat.lt_of_lt_of_le hB n1⟩, ⟨h.lg.1, Nat.lt_of_lt_of_le hG n1⟩, ⟨h.ld.1, Nat.lt_of_lt_of_le hD n1⟩, h.bG, h.bD, h.gD, nw B hB h.ob, nw G hG h.og, nw D hD h.od⟩
  have : NI s.ord ++ [.int .i64 (i : Int)] = NI (s.ord ++ [i]) := by simp [NI]
  rw [this] at g2
  have e : s.ord.length + 1 = (s.ord ++ [i]).length := by simp
  rw [e] at g2
  exact g2.past1 (nw B hB h.ob)
end
end Go.Eng
