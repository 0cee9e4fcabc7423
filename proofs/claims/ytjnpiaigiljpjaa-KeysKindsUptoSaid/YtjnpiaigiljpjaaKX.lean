/- A grammar that comes in. -/
import Derived.Test.YtjnpiaigiljpjaaKK
import Derived.Test.YtjnpiaigiljpjaaKZ
import Derived.KernelRfl
set_option linter.unusedVariables false
set_option linter.unusedSimpArgs false
namespace Go.Proofs.Ytjnpiaigiljpjaa
open Go Go.Eng Go.ChangeShapes Go.WideShapes Go.RowKit

theorem o_int : Opens Try.prog 3 Int := opens_int Try.underlying3 (by kernel_rfl)
theorem o_str : Opens Try.prog 9 ByteArray := opens_str Try.underlying9 (by kernel_rfl)
theorem o_lv : Opens Try.prog 53 Lv := Opens.via _ (fun y => ⟨y.1, y.2.1⟩) (fun _ => rfl) (opens_struct Try.underlying53 (by kernel_rfl) (OpensF.cons rfl o_int (OpensF.cons rfl o_int OpensF.nil)))
theorem o_pt : Opens Try.prog 51 Pt := Opens.via _ (fun y => ⟨y.1, y.2.1⟩) (fun _ => rfl) (opens_struct Try.underlying51 (by kernel_rfl) (OpensF.cons rfl o_int (OpensF.cons rfl o_str OpensF.nil)))
theorem o_ints : Opens Try.prog 48 (List Int) := opens_list Try.underlying48 (by kernel_rfl) (by decide) o_int
theorem o_pd : Opens Try.prog 55 Pd := Opens.via _ (fun y => ⟨y.1, y.2.1, y.2.2.1⟩) (fun _ => rfl) (opens_struct Try.underlying55 (by kernel_rfl) (OpensF.cons rfl o_int (OpensF.cons rfl o_ints (OpensF.cons rfl o_lv OpensF.nil))))
theorem o_gr : Opens Try.prog 38 Gr := Opens.via _ (fun y => ⟨y.1, y.2.1, y.2.2.1, y.2.2.2.1, y.2.2.2.2.1⟩) (fun _ => rfl) (opens_struct Try.underlying38 (by kernel_rfl)
  (OpensF.cons rfl o_strs (OpensF.cons rfl (opens_list Try.underlying34 (by kernel_rfl) (by decide) o_lv) (OpensF.cons rfl (opens_list Try.underlying35 (by kernel_rfl) (by decide) o_pt) (OpensF.cons rfl o_strs (OpensF.cons rfl (opens_list Try.underlying36 (by kernel_rfl) (by decide) o_pd) OpensF.nil))))))

theorem bulk_mem {α : Type} [Rp α] {l : List α} {x : α} (h : x ∈ l) : Rp.bulk x ≤ (l.map Rp.bulk).sum := by
  induction l with
  | nil => cases h
  | cons y l ih =>
    simp only [List.map_cons, List.sum_cons]
    rcases List.mem_cons.1 h with rfl | h
    · omega
    · have := ih h; omega
theorem bulk_pd (x : Pd) : Rp.bulk x = 1 + ((x.R.map Rp.bulk).sum + 1) + (1 + 1 + 0) + 0 := by simp [Rp.bulk]; omega
theorem pds_bulk (l : List Pd) : (pdsN l).length ≤ (l.map Rp.bulk).sum := by
  induction l with
  | nil => simp [pdsN]
  | cons x l ih =>
    rw [pdsN_cons]
    have hx := bulk_pd x
    have hl := lengths (α := Int) (by decide) x.R
    simp only [List.length_append, List.map_cons, List.sum_cons, pdN, List.length_cons, List.length_nil]
    omega
theorem pts_bulk (l : List Pt) : ptvol l ≤ 18 * (l.map Rp.bulk).sum := by
  induction l with
  | nil => simp [ptvol]
  | cons x l ih =>
    rw [ptvol_cons]
    have : Rp.bulk x = 1 + (x.P.size + 1 + 0) := rfl
    simp only [List.map_cons, List.sum_cons]
    omega
theorem fits_of {g : Gr} (h : Rp.bulk g ≤ 1048576) : Fits g := by
  have e : Rp.bulk g = ((g.terms.map Rp.bulk).sum + 1) + (((g.levels.map Rp.bulk).sum + 1) + (((g.pats.map Rp.bulk).sum + 1) + (((g.nons.map Rp.bulk).sum + 1) + (((g.prods.map Rp.bulk).sum + 1) + 0)))) := rfl
  have l0 := lengths (α := ByteArray) (by decide) g.terms
  have l1 := lengths (α := Lv) (by decide) g.levels
  have l2 := lengths (α := Pt) (by decide) g.pats
  have l3 := lengths (α := ByteArray) (by decide) g.nons
  have l4 := lengths (α := Pd) (by decide) g.prods
  have p1 := pds_bulk g.prods
  have p2 := pts_bulk g.pats
  have hm : maxLen = 9223372036854775807 := by decide
  refine ⟨⟨by omega, by omega, by omega, by omega, by omega, fun x hx => ?_, fun x hx => ?_⟩, ?_, by omega⟩
  · have := bulk_mem hx
    have e2 : Rp.bulk x = 1 + (x.P.size + 1 + 0) := rfl
    omega
  · have := bulk_mem hx
    have e2 := bulk_pd x
    have hl := lengths (α := Int) (by decide) x.R
    omega
  · rw [gvol_eq]; omega
theorem o_two : Opens Try.prog 44 (Arr 2 Gr) := opens_array Try.underlying44 (by kernel_rfl) o_gr
theorem bulk_arr (x : Arr 2 Gr) : Rp.bulk x = (x.l.map Rp.bulk).sum := rfl
theorem two_rep {R : Nat → Prop} {H : Heap} {x : Arr 2 Gr} {cs : List Value} (h : Rp.rep R H x cs) : ∃ (g0 g1 : Gr) (c0 c1 : List Value), cs = c0 ++ c1 ∧ Rp.rep R H g0 c0 ∧ Rp.rep R H g1 c1 ∧ Rp.bulk x = Rp.bulk g0 + Rp.bulk g1 := by
  obtain ⟨l, hl⟩ := x
  match l, hl with
  | [g0, g1], hl =>
    have h' : RpL (α := Gr) R H [g0, g1] cs := h
    cases h' with
    | cons h0 t =>
      cases t with
      | cons h1 t =>
        cases t with
        | nil => exact ⟨g0, g1, _, _, by simp, h0, h1, by rw [bulk_arr]; simp only [List.map_cons, List.map_nil, List.sum_cons, List.sum_nil]; omega⟩
end Go.Proofs.Ytjnpiaigiljpjaa
