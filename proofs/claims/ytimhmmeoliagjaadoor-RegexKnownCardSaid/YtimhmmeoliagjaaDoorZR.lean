import Derived.Test.YtimhmmeoliagjaaDoorCards
import Derived.Test.YtimhmmeoliagjaaDoorTie
import Derived.Test.YtimhmmeoliagjaaDoorYF
import Derived.Test.YtimhmmeoliagjaaDoorQY
import Derived.Test.YtimhmmeoliagjaaDoorEnhX
import Derived.WalkKit
import Derived.ProofKit
import Derived.OpenShut
import Derived.Deep.DeepHandedRow
import Derived.Deep.Slices
import Derived.LaidLaws
import Derived.Deep.DeepLaidRun
import Derived.JoinedCond
import Derived.LaidSub
import Derived.Lib.LaidTab
import Derived.KernelRfl
set_option linter.unusedVariables false
set_option linter.unusedSimpArgs false
set_option maxRecDepth 100000
namespace Go.Proofs.YtimhmmeoliagjaaDoor
open Go Go.Eng Go.ChangeShapes Go.WideShapes Go.RowKit

theorem own : ownKnob Tryd.prog.godebug = none := by kernel_rfl
theorem laidOut : laidOutB Tryd.prog = true := by kernel_rfl

abbrev laidL : List (String × DataW Unit) := [("math/bits.deBruijn64tab", Rows.laid_math_bits_deBruijn64tab), ("incunable/regex.letters", Rows.laid_incunable_regex_letters)]
theorem pair_cells {H : Type} {enc : TypeId × Value → H} {w : World} {base : Nat} {sp : Nat → Bool} {held : Bool} {fuel : Nat} {cs : List Value} {x y : Int} {p : List MemPlace}
    (h : DataW.trod enc Tryd.prog w base sp held fuel 128 cs = some (.agg [.lit (.int .u8 x), .lit (.int .u8 y)], p)) : cs = [.int .u8 x, .int .u8 y] := by
  obtain ⟨y0, y1, n, hx, hl, t0, t1⟩ := trod_struct2 Tryd.underlying128 h
  have hc : Tryd.prog.cellsOf 128 = 2 := by kernel_rfl
  have h5 : Tryd.prog.cellsOf 5 = 1 := by kernel_rfl
  rw [hc] at hl
  obtain ⟨a, ha, ea, _⟩ := DataW.trod_int Tryd.underlying5 t0
  obtain ⟨b, hb, eb, _⟩ := DataW.trod_int Tryd.underlying5 t1
  match cs, hl with
  | [c, d], _ =>
    simp only [h5] at ha hb
    simp at ha hb
    subst ha; subst hb
    rw [ea, eb] at hx
    simp at hx
    rw [hx.1.1, hx.1.2]
theorem add_none (b o k : Nat) : (⟨b, o, none⟩ : Addr).add k = ⟨b, o + k, none⟩ := by unfold Addr.add; split <;> simp_all
theorem add_nil (a : Addr) : a.add 0 = a := by unfold Addr.add; split <;> simp_all
theorem tables_lie {W : World} (h : laidMetH Tryd.prog laidL W) : (∃ cs e fr, W.heap[2]? = some (.cells cs e fr) ∧ cs.toList = B Lib.deBruijn64tab) ∧
    ∃ b o, (∃ cs e fr, W.heap[0]? = some (.cells cs e fr) ∧ cs.toList = [.slice (some ⟨b, o, none⟩) 3 3]) ∧ ∃ cs e fr, W.heap[b]? = some (.cells cs e fr) ∧ ∀ (j : Nat) x, LTC[j]? = some x → cs[o + j]? = some x := by
  obtain ⟨h1, _⟩ := laidMetH_iff.1 h
  have ef : (laidL.filter fun x => x.2.handleName?.isNone) = laidL := by kernel_rfl
  rw [ef] at h1
  obtain ⟨ps, ⟨g, t, cs, fuel, p, q, e1, e2, e3, e4, ⟨g', t', cs', fuel', p', q', e1', e2', e3', e4', _, _⟩, _⟩, _⟩ := h1
  obtain rfl : g = 2 := Option.some.inj (e1.symm.trans (show Tryd.prog.globalNamed "math/bits.deBruijn64tab" = some 2 by kernel_rfl))
  obtain rfl : t = 137 := Option.some.inj (e2.symm.trans (show (Tryd.prog.globals[2]?).map (·.type) = some 137 by kernel_rfl))
  obtain rfl : g' = 0 := Option.some.inj (e1'.symm.trans (show Tryd.prog.globalNamed "incunable/regex.letters" = some 0 by kernel_rfl))
  obtain rfl : t' = 127 := Option.some.inj (e2'.symm.trans (show (Tryd.prog.globals[0]?).map (·.type) = some 127 by kernel_rfl))
  constructor
  · have ez : (Rows.laid_math_bits_deBruijn64tab : DataW Unit) = Lib.tabData .u8 (Lib.deBruijn64tab.map fun (i : Nat) => (i : Int)) := by kernel_rfl
    rw [ez] at e4
    have hcs := Lib.cells_of_tab Tryd.underlying137 Tryd.underlying5 (by kernel_rfl) (by kernel_rfl) e4
    simp only [World.var?, e1, Option.bind_some] at e3
    split at e3
    case h_1 cs' e fr hh =>
      simp only [Option.some.injEq] at e3
      subst e3
      refine ⟨_, e, fr, hh, ?_⟩
      rw [hcs, List.map_map]; rfl
    case h_2 => cases e3
  · rcases Go.Deep.open_slice Tryd.underlying127 e4' with ⟨_, hx⟩ | ⟨a, len, cap, m, n, D, Pl, hcs, _, hlc, _, hm, hx, hel⟩
    · simp [Rows.laid_incunable_regex_letters] at hx
    · have hx1 := congrArg Prod.fst hx
      simp only [Rows.laid_incunable_regex_letters, DataW.slice.injEq] at hx1
      obtain ⟨hD, hR⟩ := hx1
      have hlen : len = 3 := by
        have := congrArg List.length hD
        simpa using this.symm
      subst hlen
      have hcap : cap = 3 := by
        simp only [if_true] at hm
        have := congrArg List.length hR
        simp at this
        omega
      subst hcap
      simp only [if_true] at hm
      subst hm
      have d0 : D 0 = .agg [.lit (.int .u8 110), .lit (.int .u8 10)] := by
        have := congrArg (·[0]?) hD
        simpa using this.symm
      have d1 : D 1 = .agg [.lit (.int .u8 116), .lit (.int .u8 9)] := by
        have := congrArg (·[1]?) hD
        simpa using this.symm
      have d2 : D 2 = .agg [.lit (.int .u8 114), .lit (.int .u8 13)] := by
        have := congrArg (·[2]?) hD
        simpa using this.symm
      have hc2 : Tryd.prog.cellsOf 128 = 2 := by kernel_rfl
      have cell : ∀ i, i < 3 → ∀ x y : Int, D i = .agg [.lit (.int .u8 x), .lit (.int .u8 y)] → W.cell? (a.add (i * 2)) = some (.int .u8 x) ∧ W.cell? ((a.add (i * 2)).add 1) = some (.int .u8 y) := fun i hi x y hd => by
        obtain ⟨cs', q1, q2⟩ := hel i hi
        rw [hc2] at q1
        rw [hd] at q2
        obtain rfl := pair_cells q2
        obtain ⟨_, _, g⟩ := World.cells?_some q1
        have g0 := g 0 (by omega)
        have g1 := g 1 (by omega)
        rw [add_nil] at g0
        exact ⟨g0, g1⟩
      obtain ⟨c0, c1⟩ := cell 0 (by omega) _ _ d0
      obtain ⟨c2, c3⟩ := cell 1 (by omega) _ _ d1
      obtain ⟨c4, c5⟩ := cell 2 (by omega) _ _ d2
      rw [Nat.zero_mul, add_nil] at c0 c1
      obtain ⟨hasp, cs1, et, fr, hb, hc0⟩ := cell_heap c0
      obtain ⟨ab, ao, asp⟩ := a
      simp only at hasp
      subst hasp
      simp only [add_none, Nat.one_mul, Nat.add_assoc] at c0 c1 c2 c3 c4 c5 hb hc0
      have at_ : ∀ k x, W.cell? ⟨ab, ao + k, none⟩ = some x → cs1[ao + k]? = some x := fun k x hk => by
        obtain ⟨_, cs2, _, _, hb2, hk2⟩ := cell_heap hk
        simp only at hb2 hk2
        rw [hb] at hb2
        simp only [Option.some.injEq, Obj.cells.injEq] at hb2
        rw [hb2.1]; exact hk2
      refine ⟨ab, ao, ?_, cs1, et, fr, hb, fun j x hj => ?_⟩
      · simp only [World.var?, e1', Option.bind_some] at e3'
        split at e3'
        case h_1 cs' e fr hh =>
          simp only [Option.some.injEq] at e3'
          subst e3'
          exact ⟨_, e, fr, hh, hcs⟩
        case h_2 => cases e3'
      · match j with
        | 0 => simp only [LTC, List.getElem?_cons_zero, Option.some.injEq] at hj; subst hj; exact at_ 0 _ (by simpa using c0)
        | 1 => simp only [LTC, List.getElem?_cons_succ, List.getElem?_cons_zero, Option.some.injEq] at hj; subst hj; exact at_ 1 _ c1
        | 2 => simp only [LTC, List.getElem?_cons_succ, List.getElem?_cons_zero, Option.some.injEq] at hj; subst hj; exact at_ 2 _ c2
        | 3 => simp only [LTC, List.getElem?_cons_succ, List.getElem?_cons_zero, Option.some.injEq] at hj; subst hj; exact at_ 3 _ c3
        | 4 => simp only [LTC, List.getElem?_cons_succ, List.getElem?_cons_zero, Option.some.injEq] at hj; subst hj; exact at_ 4 _ c4
        | 5 => simp only [LTC, List.getElem?_cons_succ, List.getElem?_cons_zero, Option.some.injEq] at hj; subst hj; exact at_ 5 _ c5
        | j + 6 => simp [LTC] at hj
def W0 (b o : Nat) : List Win := [⟨0, 0, some [.slice (some ⟨3, 0, none⟩) 3 3]⟩, ⟨1, 0, none⟩, ⟨2, 0, some (B Lib.deBruijn64tab)⟩, ⟨b, o, some LTC⟩]
theorem W0_ok {W : World} (h : laidMetH Tryd.prog laidL W) : ∃ b o, WinOk W (W0 b o) := by
  obtain ⟨⟨cs2, t2, f2, hb2, hc2⟩, b, o, ⟨cs0, t0, f0, hb0, hc0⟩, cs3, t3, f3, hb3, hc3⟩ := tables_lie h
  refine ⟨b, o, fun i x l hi hl => ?_⟩
  match i with
  | 0 =>
    simp only [W0, List.getElem?_cons_zero, Option.some.injEq] at hi
    subst hi
    simp only [Option.some.injEq] at hl
    subst hl
    have hsz : cs0.size = 1 := by rw [← Array.length_toList, hc0]; rfl
    refine ⟨cs0, t0, f0, hb0, by rw [hsz]; simp, rfl, fun j v hv => ?_⟩
    match j with
    | 0 =>
      simp only [List.getElem?_cons_zero, Option.some.injEq] at hv
      subst hv
      refine ⟨.slice (some ⟨b, o, none⟩) 3 3, by rw [← Array.getElem?_toList, hc0]; rfl, ?_⟩
      have := VRel.slc (m := mw (W0 b o)) (b := 3) (o := 0) (p := ⟨b, o, 0⟩) (len := 3) (cap := 3) (cap' := 3) rfl (Nat.le_refl _) (Nat.le_refl _) (Nat.le_refl _)
      simpa using this
    | j + 1 => simp at hv
  | 1 => simp only [W0, List.getElem?_cons_succ, List.getElem?_cons_zero, Option.some.injEq] at hi; subst hi; cases hl
  | 2 =>
    simp only [W0, List.getElem?_cons_succ, List.getElem?_cons_zero, Option.some.injEq] at hi
    subst hi
    simp only [Option.some.injEq] at hl
    subst hl
    have hsz : (B Lib.deBruijn64tab).length = cs2.size := by rw [← hc2]; simp
    refine ⟨cs2, t2, f2, hb2, by rw [hsz]; simp, rfl, fun j v hv => ⟨v, by rw [← Array.getElem?_toList, hc2, Nat.zero_add]; exact hv, ?_⟩⟩
    obtain ⟨s, _, rfl⟩ := List.mem_map.1 (List.mem_of_getElem? hv)
    exact .flat rfl
  | 3 =>
    simp only [W0, List.getElem?_cons_succ, List.getElem?_cons_zero, Option.some.injEq] at hi
    subst hi
    simp only [Option.some.injEq] at hl
    subst hl
    have hsz : o + 5 < cs3.size := (Array.getElem?_eq_some_iff.1 (hc3 5 _ rfl)).1
    refine ⟨cs3, t3, f3, hb3, by show o + 6 ≤ _; omega, rfl, fun j v hv => ⟨v, hc3 j v hv, ?_⟩⟩
    have : LTC.all flat1 = true := rfl
    exact .flat (List.all_eq_true.1 this v (List.mem_of_getElem? hv))
  | i + 4 => simp [W0] at hi
theorem gN : Tryd.prog.globals.size = 3 := by kernel_rfl
theorem W0_G {b o : Nat} {W : List Win} (h : W0 b o <+: W) : GOK Tryd.prog true (mw W) := by
  obtain ⟨V, rfl⟩ := h
  intro _ g hg
  rw [gN] at hg
  have h0 : (W0 b o ++ V)[g]? = (W0 b o)[g]? := List.getElem?_append_left (by simp only [W0, List.length_cons, List.length_nil]; omega)
  simp only [mw, h0]
  match g, hg with
  | 0, _ => rfl
  | 1, _ => rfl
  | 2, _ => rfl
theorem W0_L {b o : Nat} {W : List Win} (h : W0 b o <+: W) : G9 (hw W) := by
  obtain ⟨V, rfl⟩ := h
  have g : ∀ i x l, (W0 b o)[i]? = some x → x.cells = some l → (hw (W0 b o ++ V)).get i = some ⟨l, 0, false⟩ := fun i x l hi hl => by
    have hlt := (List.getElem?_eq_some_iff.1 hi).1
    simp only [hw, List.getElem?_append_left hlt, hi, Option.bind_some, hl, Option.map_some]
  have hn : 4 ≤ (hw (W0 b o ++ V)).n := by simp only [hw, List.length_append, W0, List.length_cons, List.length_nil]; omega
  refine ⟨⟨.slice (some ⟨3, 0, none⟩) 3 3, 0, false, by show 0 < _; exact Nat.lt_of_lt_of_le (by decide) hn, ?_, ?_⟩, by omega, 0, g 2 _ _ rfl rfl⟩
  · exact frz_get.2 ⟨g 0 _ _ rfl rfl, rfl⟩
  · refine .inr (.inr ⟨3, 0, none, 3, _, rfl, by show 3 < _; exact Nat.lt_of_lt_of_le (by decide) hn, frz_get.2 ⟨g 3 _ _ rfl rfl, rfl⟩, by decide, Nat.le_refl _, rfl⟩)
noncomputable def lay (o : Obj) (cs : Array Value) : Obj := match o with
  | .cells _ t frozen => .cells cs t frozen
  | o => o
noncomputable def laidWorld (os : Os) : World :=
  { World.holding Tryd.prog os ⟨#[], #[], []⟩ with heap := (((World.holding Tryd.prog os ⟨#[], #[], []⟩).heap.modify 0 (fun o => lay o #[.slice (some ⟨(World.holding Tryd.prog os ⟨#[], #[], []⟩).heap.size, 0, none⟩) 3 3])).modify 2 (fun o => lay o #[.int .u8 0, .int .u8 1, .int .u8 56, .int .u8 2, .int .u8 57, .int .u8 49, .int .u8 28, .int .u8 3, .int .u8 61, .int .u8 58, .int .u8 42, .int .u8 50, .int .u8 38, .int .u8 29, .int .u8 17, .int .u8 4, .int .u8 62, .int .u8 47, .int .u8 59, .int .u8 36, .int .u8 45, .int .u8 43, .int .u8 51, .int .u8 22, .int .u8 53, .int .u8 39, .int .u8 33, .int .u8 30, .int .u8 24, .int .u8 18, .int .u8 12, .int .u8 5, .int .u8 63, .int .u8 55, .int .u8 48, .int .u8 27, .int .u8 60, .int .u8 41, .int .u8 37, .int .u8 16, .int .u8 46, .int .u8 35, .int .u8 44, .int .u8 21, .int .u8 52, .int .u8 32, .int .u8 23, .int .u8 11, .int .u8 54, .int .u8 26, .int .u8 40, .int .u8 15, .int .u8 34, .int .u8 20, .int .u8 31, .int .u8 10, .int .u8 25, .int .u8 14, .int .u8 19, .int .u8 9, .int .u8 13, .int .u8 8, .int .u8 7, .int .u8 6])).push (.cells #[.int .u8 110, .int .u8 10, .int .u8 116, .int .u8 9, .int .u8 114, .int .u8 13] 128 (0, 0)) }
end Go.Proofs.YtimhmmeoliagjaaDoor
