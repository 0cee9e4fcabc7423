/- The bound on what comes in; kinds of the program's types; the table of words, as it lies; a world that holds the tables. -/
import Derived.Test.YtmfbebfpeimflaaDoorCards
import Derived.Test.YtmfbebfpeimflaaDoorTie
import Derived.Test.YtmfbebfpeimflaaDoorGD
import Derived.Test.YtmfbebfpeimflaaDoorEnhX
import Derived.WalkKit
import Derived.ProofKit
import Derived.OpenShut
import Derived.Deep.DeepHandedRow
import Derived.LaidLaws
import Derived.Deep.DeepLaidRun
import Derived.JoinedCond
import Derived.LaidSub
import Derived.Lib.LaidTab
import Derived.KernelRfl
set_option linter.unusedVariables false
set_option linter.unusedSimpArgs false
namespace Go.Proofs.YtmfbebfpeimflaaDoor
open Go Go.Eng Go.ChangeShapes Go.WideShapes Go.RowKit

theorem EE_sound : ExtSound Tryd.prog true EE := noExt_sound _ _
theorem EE_mono : ExtMono EE := noExt_mono
theorem bs_back (s : ByteArray) : bs s.data.toList = s := by simp [bs]
/-! ### the bound -/
mutual
theorem bulk_eq {H : Type} : ∀ d : DataW H, ebulk d ≤ Rows.uptoBulk d
  | .lit l => by cases l <;> simp [ebulk, Rows.uptoBulk]
  | .nil => by simp [ebulk, Rows.uptoBulk]
  | .ptr d => by have := bulk_eq d; simp only [ebulk, Rows.uptoBulk]; omega
  | .slice a b => by have := bulks_eq a; have := bulks_eq b; simp only [ebulk, Rows.uptoBulk]; omega
  | .agg a => by have := bulks_eq a; simp only [ebulk, Rows.uptoBulk]; omega
  | .iface n d => by have := bulk_eq d; simp only [ebulk, Rows.uptoBulk]; omega
  | .map a => by have := bulke_eq a; simp only [ebulk, Rows.uptoBulk]; omega
  | .held h => by simp [ebulk, Rows.uptoBulk]
theorem bulks_eq {H : Type} : ∀ l : List (DataW H), ebulkAll l ≤ Rows.uptoBulkAll l
  | [] => by simp [ebulkAll, Rows.uptoBulkAll]
  | d :: l => by have := bulk_eq d; have := bulks_eq l; simp only [ebulkAll, Rows.uptoBulkAll]; omega
theorem bulke_eq {H : Type} : ∀ l : List (Lit × DataW H), ebulkEntries l ≤ Rows.uptoBulkEntries l
  | [] => by simp [ebulkEntries, Rows.uptoBulkEntries]
  | (k, d) :: l => by
    have := bulk_eq d
    have := bulke_eq l
    cases k <;> simp only [ebulkEntries, Rows.uptoBulkEntries, Rows.uptoBulkEntry] <;> omega
end
theorem own : ownKnob Tryd.prog.godebug = none := by kernel_rfl
theorem laidOut : laidOutB Tryd.prog = true := by kernel_rfl

/-! ### kinds -/
theorem o_int : Opens Tryd.prog 3 Int := opens_int Tryd.underlying3 (by kernel_rfl)
theorem o_str : Opens Tryd.prog 9 ByteArray := opens_str Tryd.underlying9 (by kernel_rfl)
theorem o_bytes : Opens Tryd.prog 22 (List UInt8) := opens_list Tryd.underlying22 (by kernel_rfl) (by decide) (opens_u8 Tryd.underlying5 (by kernel_rfl))
theorem rep_bytes {R : Nat → Prop} {H : Heap} {l : List UInt8} {v : Value} (h : Rp.rep R H l [v]) : SlU R H l v := by
  obtain ⟨v', hv, cs, h1, h2⟩ := h
  obtain rfl : v = v' := by simpa using hv
  have : ∀ {xs : List UInt8} {cs : List Value}, RpL R H xs cs → cs = B (xs.map UInt8.toNat) := by
    intro xs cs h
    induction h with
    | nil => rfl
    | cons h1 h2 ih => rw [ih]; obtain rfl := h1; rfl
  have e : cs = B (U l) := this h2
  rw [e] at h1
  exact h1
theorem rep_list {α : Type} [Rp α] {R : Nat → Prop} {H : Heap} {l : List α} {v : Value} (h : Rp.rep R H l [v]) : Sli R H l v := by
  obtain ⟨v', hv, h1⟩ := h
  obtain rfl : v = v' := by simpa using hv
  exact h1
theorem bulk_list {α : Type} [Rp α] (hs : 0 < Rp.sz α) (x : List α) : x.length ≤ Rp.bulk x := by
  have := lengths (α := α) hs x
  have e : Rp.bulk x = (x.map Rp.bulk).sum + 1 := rfl
  omega
/-! ### the table -/
abbrev laidL : List (String × DataW Unit) := [("unicode/utf8.acceptRanges", Rows.laid_unicode_utf8_acceptRanges), ("incunable/words.language", Rows.laid_incunable_words_language), ("unicode/utf8.first", Rows.laid_unicode_utf8_first)]
theorem cells_of_strs {H : Type} {enc : TypeId × Value → H} {P : Program} {w : World} {base : Nat} {sp : Nat → Bool} {held : Bool} {fuel : Nat} {t e : TypeId} {n : Nat} {cs : List Value} {zs : List (List UInt8)} {p : List MemPlace}
    (ht : P.underlying t = some (.array n e)) (he : P.underlying e = some .string) (hce : P.cellsOf e = 1) (hct : P.cellsOf t = n)
    (h : DataW.trod enc P w base sp held fuel t cs = some (.agg (zs.map fun s => .lit (.string s)), p)) : cs = STRS zs := by
  cases fuel with
  | zero => simp [DataW.trod] at h
  | succ fuel =>
    simp only [DataW.trod, ht, hce, hct, Nat.mul_one] at h
    split at h
    · rename_i hl
      obtain ⟨xs, hm, hx⟩ := Option.map_eq_some_iff.1 h
      have hxs : xs.map (·.1) = zs.map fun z => (DataW.lit (.string z) : DataW H) := by
        have := congrArg Prod.fst hx
        simpa using this
      have hxl : xs.length = n := by simpa using Lib.mapM_length hm
      have hzl : zs.length = n := by
        have := congrArg List.length hxs
        simp at this
        omega
      apply List.ext_getElem?
      intro i
      by_cases hi : i < n
      · obtain ⟨b, hb, hf⟩ := Lib.mapM_at hm i i (by simp [hi])
        obtain ⟨z, hc, rfl, _⟩ := DataW.trod_string he hf
        have h1 : cs[i]? = some (.string z) := by
          have := congrArg (·[0]?) hc
          simpa [List.getElem?_take, List.getElem?_drop] using this
        have h2 : (xs.map (·.1))[i]? = some (DataW.lit (.string z.data.toList) : DataW H) := by simp [hb]
        rw [hxs] at h2
        simp only [List.getElem?_map, Option.map_eq_some_iff, DataW.lit.injEq, Lit.string.injEq] at h2
        obtain ⟨z', hz', e⟩ := h2
        rw [h1, STRS_at hz', e, bs_back]
      · rw [List.getElem?_eq_none (by omega), List.getElem?_eq_none (by simp [STRS]; omega)]
    · cases h
theorem lang_lies {W : World} (h : laidMetH Tryd.prog laidL W) : ∃ cs e fr, W.heap[0]? = some (.cells cs e fr) ∧ cs.toList = LANG := by
  obtain ⟨h1, _⟩ := laidMetH_iff.1 h
  have ef : (laidL.filter fun x => x.2.handleName?.isNone) = laidL := by kernel_rfl
  rw [ef] at h1
  obtain ⟨ps, ⟨g0, t0, cs0, fuel0, p0, q0, _, _, _, _, ⟨g, t, cs, fuel, p, q, e1, e2, e3, e4, _, _⟩, _⟩, _⟩ := h1
  obtain rfl : g = 0 := Option.some.inj (e1.symm.trans (show Tryd.prog.globalNamed "incunable/words.language" = some 0 by kernel_rfl))
  obtain rfl : t = 98 := Option.some.inj (e2.symm.trans (show (Tryd.prog.globals[0]?).map (·.type) = some 98 by kernel_rfl))
  have ez : (Rows.laid_incunable_words_language : DataW Unit) = .agg (kws.map fun s => .lit (.string s)) := rfl
  rw [ez] at e4
  have hcs := cells_of_strs Tryd.underlying98 Tryd.underlying9 (by kernel_rfl) (by kernel_rfl) e4
  simp only [World.var?, e1, Option.bind_some] at e3
  split at e3
  case h_1 cs' e fr hh =>
    simp only [Option.some.injEq] at e3
    subst e3
    exact ⟨_, e, fr, hh, hcs⟩
  case h_2 => cases e3
/-- The windows of the package variables. -/
def W0 : List Win := [⟨0, 0, some LANG⟩, ⟨1, 0, none⟩, ⟨2, 0, none⟩, ⟨3, 0, none⟩]
theorem W0_ok {W : World} (h : laidMetH Tryd.prog laidL W) : WinOk W W0 := by
  obtain ⟨cs, e, fr, h1, h2⟩ := lang_lies h
  intro i x l hi hl
  match i with
  | 0 =>
    simp only [W0, List.getElem?_cons_zero, Option.some.injEq] at hi
    subst hi
    simp only [Option.some.injEq] at hl
    subst hl
    have hsz : LANG.length = cs.size := by rw [← h2]; simp
    refine ⟨cs, e, fr, h1, by rw [hsz]; simp, rfl, fun j v hv => ?_⟩
    refine ⟨v, ?_, ?_⟩
    · rw [← Array.getElem?_toList, h2, Nat.zero_add]; exact hv
    · obtain ⟨s, _, rfl⟩ := List.mem_map.1 (List.mem_of_getElem? hv)
      exact .flat rfl
  | 1 => simp only [W0, List.getElem?_cons_succ, List.getElem?_cons_zero, Option.some.injEq] at hi; subst hi; cases hl
  | 2 => simp only [W0, List.getElem?_cons_succ, List.getElem?_cons_zero, Option.some.injEq] at hi; subst hi; cases hl
  | 3 => simp only [W0, List.getElem?_cons_succ, List.getElem?_cons_zero, Option.some.injEq] at hi; subst hi; cases hl
  | i + 4 => simp [W0] at hi
theorem gN : Tryd.prog.globals.size = 4 := by kernel_rfl
theorem W0_G {W : List Win} (h : W0 <+: W) : GOK Tryd.prog true (mw W) := by
  obtain ⟨V, rfl⟩ := h
  intro _ g hg
  rw [gN] at hg
  have h0 : (W0 ++ V)[g]? = W0[g]? := List.getElem?_append_left hg
  simp only [mw, h0]
  match g, hg with
  | 0, _ => rfl
  | 1, _ => rfl
  | 2, _ => rfl
  | 3, _ => rfl
theorem W0_L {W : List Win} (h : W0 <+: W) : Lg (hw W) := by
  obtain ⟨V, rfl⟩ := h
  refine ⟨by simp [all, hw, W0], 0, false, ?_⟩
  rfl
/-- A world for the witness: the settled one, the tables holding what their initialisers lay. -/
noncomputable def lay (o : Obj) (cs : Array Value) : Obj := match o with
  | .cells _ t frozen => .cells cs t frozen
  | o => o
def LANGA : Array Value := #[.string ⟨#[105, 109, 112, 111, 114, 116]⟩, .string ⟨#[115, 116, 97, 114, 116]⟩, .string ⟨#[116, 101, 114, 109]⟩, .string ⟨#[115, 107, 105, 112]⟩, .string ⟨#[108, 101, 102, 116]⟩, .string ⟨#[114, 105, 103, 104, 116]⟩, .string ⟨#[110, 111, 110, 101]⟩, .string ⟨#[114, 117, 108, 101]⟩, .string ⟨#[112, 114, 101, 99]⟩]
noncomputable def laidWorld (os : Os) : World :=
  { World.holding Tryd.prog os ⟨#[], #[], []⟩ with heap := (((World.holding Tryd.prog os ⟨#[], #[], []⟩).heap.modify 0 (fun o => lay o LANGA)).modify 2 (fun o => lay o #[.int .u8 240, .int .u8 240, .int .u8 240, .int .u8 240, .int .u8 240, .int .u8 240, .int .u8 240, .int .u8 240, .int .u8 240, .int .u8 240, .int .u8 240, .int .u8 240, .int .u8 240, .int .u8 240, .int .u8 240, .int .u8 240, .int .u8 240, .int .u8 240, .int .u8 240, .int .u8 240, .int .u8 240, .int .u8 240, .int .u8 240, .int .u8 240, .int .u8 240, .int .u8 240, .int .u8 240, .int .u8 240, .int .u8 240, .int .u8 240, .int .u8 240, .int .u8 240, .int .u8 240, .int .u8 240, .int .u8 240, .int .u8 240, .int .u8 240, .int .u8 240, .int .u8 240, .int .u8 240, .int .u8 240, .int .u8 240, .int .u8 240, .int .u8 240, .int .u8 240, .int .u8 240, .int .u8 240, .int .u8 240, .int .u8 240, .int .u8 240, .int .u8 240, .int .u8 240, .int .u8 240, .int .u8 240, .int .u8 240, .int .u8 240, .int .u8 240, .int .u8 240, .int .u8 240, .int .u8 240, .int .u8 240, .int .u8 240, .int .u8 240, .int .u8 240, .int .u8 240, .int .u8 240, .int .u8 240, .int .u8 240, .int .u8 240, .int .u8 240, .int .u8 240, .int .u8 240, .int .u8 240, .int .u8 240, .int .u8 240, .int .u8 240, .int .u8 240, .int .u8 240, .int .u8 240, .int .u8 240, .int .u8 240, .int .u8 240, .int .u8 240, .int .u8 240, .int .u8 240, .int .u8 240, .int .u8 240, .int .u8 240, .int .u8 240, .int .u8 240, .int .u8 240, .int .u8 240, .int .u8 240, .int .u8 240, .int .u8 240, .int .u8 240, .int .u8 240, .int .u8 240, .int .u8 240, .int .u8 240, .int .u8 240, .int .u8 240, .int .u8 240, .int .u8 240, .int .u8 240, .int .u8 240, .int .u8 240, .int .u8 240, .int .u8 240, .int .u8 240, .int .u8 240, .int .u8 240, .int .u8 240, .int .u8 240, .int .u8 240, .int .u8 240, .int .u8 240, .int .u8 240, .int .u8 240, .int .u8 240, .int .u8 240, .int .u8 240, .int .u8 240, .int .u8 240, .int .u8 240, .int .u8 240, .int .u8 240, .int .u8 240, .int .u8 241, .int .u8 241, .int .u8 241, .int .u8 241, .int .u8 241, .int .u8 241, .int .u8 241, .int .u8 241, .int .u8 241, .int .u8 241, .int .u8 241, .int .u8 241, .int .u8 241, .int .u8 241, .int .u8 241, .int .u8 241, .int .u8 241, .int .u8 241, .int .u8 241, .int .u8 241, .int .u8 241, .int .u8 241, .int .u8 241, .int .u8 241, .int .u8 241, .int .u8 241, .int .u8 241, .int .u8 241, .int .u8 241, .int .u8 241, .int .u8 241, .int .u8 241, .int .u8 241, .int .u8 241, .int .u8 241, .int .u8 241, .int .u8 241, .int .u8 241, .int .u8 241, .int .u8 241, .int .u8 241, .int .u8 241, .int .u8 241, .int .u8 241, .int .u8 241, .int .u8 241, .int .u8 241, .int .u8 241, .int .u8 241, .int .u8 241, .int .u8 241, .int .u8 241, .int .u8 241, .int .u8 241, .int .u8 241, .int .u8 241, .int .u8 241, .int .u8 241, .int .u8 241, .int .u8 241, .int .u8 241, .int .u8 241, .int .u8 241, .int .u8 241, .int .u8 241, .int .u8 241, .int .u8 2, .int .u8 2, .int .u8 2, .int .u8 2, .int .u8 2, .int .u8 2, .int .u8 2, .int .u8 2, .int .u8 2, .int .u8 2, .int .u8 2, .int .u8 2, .int .u8 2, .int .u8 2, .int .u8 2, .int .u8 2, .int .u8 2, .int .u8 2, .int .u8 2, .int .u8 2, .int .u8 2, .int .u8 2, .int .u8 2, .int .u8 2, .int .u8 2, .int .u8 2, .int .u8 2, .int .u8 2, .int .u8 2, .int .u8 2, .int .u8 19, .int .u8 3, .int .u8 3, .int .u8 3, .int .u8 3, .int .u8 3, .int .u8 3, .int .u8 3, .int .u8 3, .int .u8 3, .int .u8 3, .int .u8 3, .int .u8 3, .int .u8 35, .int .u8 3, .int .u8 3, .int .u8 52, .int .u8 4, .int .u8 4, .int .u8 4, .int .u8 68, .int .u8 241, .int .u8 241, .int .u8 241, .int .u8 241, .int .u8 241, .int .u8 241, .int .u8 241, .int .u8 241, .int .u8 241, .int .u8 241, .int .u8 241])).modify 3 (fun o => lay o #[.int .u8 128, .int .u8 191, .int .u8 160, .int .u8 191, .int .u8 128, .int .u8 159, .int .u8 144, .int .u8 191, .int .u8 128, .int .u8 143, .int .u8 0, .int .u8 0, .int .u8 0, .int .u8 0, .int .u8 0, .int .u8 0, .int .u8 0, .int .u8 0, .int .u8 0, .int .u8 0, .int .u8 0, .int .u8 0, .int .u8 0, .int .u8 0, .int .u8 0, .int .u8 0, .int .u8 0, .int .u8 0, .int .u8 0, .int .u8 0, .int .u8 0, .int .u8 0]) }
end Go.Proofs.YtmfbebfpeimflaaDoor
