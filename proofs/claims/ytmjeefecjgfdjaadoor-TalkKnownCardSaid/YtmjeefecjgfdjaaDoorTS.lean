/- The bound on what comes in; kinds of the program's types; a world that holds the tables. -/
import Derived.Test.YtmjeefecjgfdjaaDoorCards
import Derived.Test.YtmjeefecjgfdjaaDoorTie
import Derived.Test.YtmjeefecjgfdjaaDoorTR
import Derived.Test.YtmjeefecjgfdjaaDoorEngX
import Derived.WalkKit
import Derived.ProofKit
import Derived.OpenShut
import Derived.Deep.DeepHandedRow
import Derived.LaidLaws
import Derived.Deep.DeepLaidRun
import Derived.JoinedCond
import Derived.KernelRfl
set_option linter.unusedVariables false
set_option linter.unusedSimpArgs false
namespace Go.Proofs.YtmjeefecjgfdjaaDoor
open Go Go.Eng Go.ChangeShapes Go.WideShapes Go.RowKit

/-! ### the bound -/
mutual
theorem bulk_eq {H : Type} : ∀ d : DataW H, ebulk d ≤ Rows.uptoBulk d
  | .lit l => by cases l <;> simp [ebulk, Rows.uptoBulk]
  | .nil => by simp [ebulk, Rows.uptoBulk]
  | .ptr d => by have := bulk_eq d; simp only [ebulk, Rows.uptoBulk]; omega
  | .slice a b => by have := bulks_eq a; have := bulks_eq b; simp only [ebulk, Rows.uptoBulk]; omega
  | .agg a => by have := bulks_eq a; simp only [ebulk, Rows.uptoBulk]; omega
  | .iface n d => by have := bulk_eq d; simp only [ebulk, Rows.uptoBulk]; omega
  | .map a => by have := bulke_eq a; simp only [ebulk, Rows.uptoBulk]; omega
  | .held h => by simp [ebulk, Rows.uptoBulk]
theorem bulks_eq {H : Type} : ∀ l : List (DataW H), ebulkAll l ≤ Rows.uptoBulkAll l
  | [] => by simp [ebulkAll, Rows.uptoBulkAll]
  | d :: l => by have := bulk_eq d; have := bulks_eq l; simp only [ebulkAll, Rows.uptoBulkAll]; omega
theorem bulke_eq {H : Type} : ∀ l : List (Lit × DataW H), ebulkEntries l ≤ Rows.uptoBulkEntries l
  | [] => by simp [ebulkEntries, Rows.uptoBulkEntries]
  | (k, d) :: l => by
    have := bulk_eq d
    have := bulke_eq l
    cases k <;> simp only [ebulkEntries, Rows.uptoBulkEntries, Rows.uptoBulkEntry] <;> omega
end
theorem own : ownKnob Tryd.prog.godebug = none := by kernel_rfl
theorem laidOut : laidOutB Tryd.prog = true := by kernel_rfl

/-! ### kinds -/
theorem o_int : Opens Tryd.prog 3 Int := opens_int Tryd.underlying3 (by kernel_rfl)
theorem o_err : Opens Tryd.prog 26 Int := opens_int Tryd.underlying26 (by kernel_rfl)
theorem o_str : Opens Tryd.prog 9 ByteArray := opens_str Tryd.underlying9 (by kernel_rfl)
theorem o_bytes : Opens Tryd.prog 22 (List UInt8) := opens_list Tryd.underlying22 (by kernel_rfl) (by decide) (opens_u8 Tryd.underlying5 (by kernel_rfl))
theorem rep_bytes {R : Nat → Prop} {H : Heap} {l : List UInt8} {v : Value} (h : Rp.rep R H l [v]) : Sl R H 1 v (U l).length (B (U l)) := by
  obtain ⟨v', hv, cs, h1, h2⟩ := h
  obtain rfl : v = v' := by simpa using hv
  have : ∀ {xs : List UInt8} {cs : List Value}, RpL R H xs cs → cs = B (xs.map UInt8.toNat) := by
    intro xs cs h
    induction h with
    | nil => rfl
    | cons h1 h2 ih => rw [ih]; obtain rfl := h1; rfl
  have e : cs = B (U l) := this h2
  rw [← e, U_len]
  exact h1
structure Dq where
  K : Int
  P : ByteArray
  D : List UInt8
structure Dp where
  K : Int
  E : Int
  A : Int
  P : ByteArray
  D : List UInt8
instance : Rp Dq := Rp.via fun x => (x.K, x.P, x.D, ())
instance : Rp Dp := Rp.via fun x => (x.K, x.E, x.A, x.P, x.D, ())
set_option maxRecDepth 100000
theorem o_rq : Opens Tryd.prog 24 Dq := Opens.via _ (fun y => ⟨y.1, y.2.1, y.2.2.1⟩) (fun _ => rfl) (opens_struct Tryd.underlying24 (by kernel_rfl) (OpensF.cons rfl o_int (OpensF.cons rfl o_str (OpensF.cons rfl o_bytes OpensF.nil))))
theorem o_rp : Opens Tryd.prog 35 Dp := Opens.via _ (fun y => ⟨y.1, y.2.1, y.2.2.1, y.2.2.2.1, y.2.2.2.2.1⟩) (fun _ => rfl) (opens_struct Tryd.underlying35 (by kernel_rfl) (OpensF.cons rfl o_int (OpensF.cons rfl o_err (OpensF.cons rfl o_int (OpensF.cons rfl o_str (OpensF.cons rfl o_bytes OpensF.nil))))))
theorem rep_rq {R : Nat → Prop} {H : Heap} {x : Dq} {cs : List Value} (h : Rp.rep R H x cs) : ∃ w, cs = [.int .i64 x.K, .string (bs x.P.data.toList), w] ∧ Sl R H 1 w (U x.D).length (B (U x.D)) := by
  obtain ⟨a, b, rfl, h1, c, d, rfl, h2, e, f, rfl, h3, h4⟩ := h
  obtain ⟨rfl, _⟩ := h1
  obtain rfl := h2
  obtain rfl := h4
  obtain ⟨w, rfl, _⟩ := id h3
  exact ⟨w, by rw [← bs_of]; rfl, rep_bytes h3⟩
theorem rep_rp {R : Nat → Prop} {H : Heap} {x : Dp} {cs : List Value} (h : Rp.rep R H x cs) : ∃ w, cs = [.int .i64 x.K, .int .i64 x.E, .int .i64 x.A, .string (bs x.P.data.toList), w] ∧ Sl R H 1 w (U x.D).length (B (U x.D)) := by
  obtain ⟨a, b, rfl, h1, a2, b2, rfl, h12, a3, b3, rfl, h13, c, d, rfl, h2, e, f, rfl, h3, h4⟩ := h
  obtain ⟨rfl, _⟩ := h1
  obtain ⟨rfl, _⟩ := h12
  obtain ⟨rfl, _⟩ := h13
  obtain rfl := h2
  obtain rfl := h4
  obtain ⟨w, rfl, _⟩ := id h3
  exact ⟨w, by rw [← bs_of]; rfl, rep_bytes h3⟩
theorem bulk_rq (x : Dq) : x.P.data.toList.length + x.D.length ≤ Rp.bulk x := by
  have := lengths (α := UInt8) (by decide) x.D
  have e : Rp.bulk x = 1 + ((x.P.size + 1) + (((x.D.map Rp.bulk).sum + 1) + 0)) := rfl
  have e2 : x.P.data.toList.length = x.P.size := rfl
  omega
theorem bulk_rp (x : Dp) : x.P.data.toList.length + x.D.length ≤ Rp.bulk x := by
  have := lengths (α := UInt8) (by decide) x.D
  have e : Rp.bulk x = 1 + (1 + (1 + ((x.P.size + 1) + (((x.D.map Rp.bulk).sum + 1) + 0)))) := rfl
  have e2 : x.P.data.toList.length = x.P.size := rfl
  omega
theorem bulk_bytes (x : List UInt8) : x.length ≤ Rp.bulk x := by
  have := lengths (α := UInt8) (by decide) x
  have e : Rp.bulk x = (x.map Rp.bulk).sum + 1 := rfl
  omega
/-- A world for the witness: the settled one, the tables holding what their initialisers lay. -/
noncomputable def lay (o : Obj) (cs : Array Value) : Obj := match o with
  | .cells _ t frozen => .cells cs t frozen
  | o => o
noncomputable def laidWorld (os : Os) : World :=
  { World.holding Tryd.prog os ⟨#[], #[], []⟩ with heap := ((World.holding Tryd.prog os ⟨#[], #[], []⟩).heap.modify 1 (fun o => lay o #[.int .u8 240, .int .u8 240, .int .u8 240, .int .u8 240, .int .u8 240, .int .u8 240, .int .u8 240, .int .u8 240, .int .u8 240, .int .u8 240, .int .u8 240, .int .u8 240, .int .u8 240, .int .u8 240, .int .u8 240, .int .u8 240, .int .u8 240, .int .u8 240, .int .u8 240, .int .u8 240, .int .u8 240, .int .u8 240, .int .u8 240, .int .u8 240, .int .u8 240, .int .u8 240, .int .u8 240, .int .u8 240, .int .u8 240, .int .u8 240, .int .u8 240, .int .u8 240, .int .u8 240, .int .u8 240, .int .u8 240, .int .u8 240, .int .u8 240, .int .u8 240, .int .u8 240, .int .u8 240, .int .u8 240, .int .u8 240, .int .u8 240, .int .u8 240, .int .u8 240, .int .u8 240, .int .u8 240, .int .u8 240, .int .u8 240, .int .u8 240, .int .u8 240, .int .u8 240, .int .u8 240, .int .u8 240, .int .u8 240, .int .u8 240, .int .u8 240, .int .u8 240, .int .u8 240, .int .u8 240, .int .u8 240, .int .u8 240, .int .u8 240, .int .u8 240, .int .u8 240, .int .u8 240, .int .u8 240, .int .u8 240, .int .u8 240, .int .u8 240, .int .u8 240, .int .u8 240, .int .u8 240, .int .u8 240, .int .u8 240, .int .u8 240, .int .u8 240, .int .u8 240, .int .u8 240, .int .u8 240, .int .u8 240, .int .u8 240, .int .u8 240, .int .u8 240, .int .u8 240, .int .u8 240, .int .u8 240, .int .u8 240, .int .u8 240, .int .u8 240, .int .u8 240, .int .u8 240, .int .u8 240, .int .u8 240, .int .u8 240, .int .u8 240, .int .u8 240, .int .u8 240, .int .u8 240, .int .u8 240, .int .u8 240, .int .u8 240, .int .u8 240, .int .u8 240, .int .u8 240, .int .u8 240, .int .u8 240, .int .u8 240, .int .u8 240, .int .u8 240, .int .u8 240, .int .u8 240, .int .u8 240, .int .u8 240, .int .u8 240, .int .u8 240, .int .u8 240, .int .u8 240, .int .u8 240, .int .u8 240, .int .u8 240, .int .u8 240, .int .u8 240, .int .u8 240, .int .u8 240, .int .u8 240, .int .u8 240, .int .u8 240, .int .u8 241, .int .u8 241, .int .u8 241, .int .u8 241, .int .u8 241, .int .u8 241, .int .u8 241, .int .u8 241, .int .u8 241, .int .u8 241, .int .u8 241, .int .u8 241, .int .u8 241, .int .u8 241, .int .u8 241, .int .u8 241, .int .u8 241, .int .u8 241, .int .u8 241, .int .u8 241, .int .u8 241, .int .u8 241, .int .u8 241, .int .u8 241, .int .u8 241, .int .u8 241, .int .u8 241, .int .u8 241, .int .u8 241, .int .u8 241, .int .u8 241, .int .u8 241, .int .u8 241, .int .u8 241, .int .u8 241, .int .u8 241, .int .u8 241, .int .u8 241, .int .u8 241, .int .u8 241, .int .u8 241, .int .u8 241, .int .u8 241, .int .u8 241, .int .u8 241, .int .u8 241, .int .u8 241, .int .u8 241, .int .u8 241, .int .u8 241, .int .u8 241, .int .u8 241, .int .u8 241, .int .u8 241, .int .u8 241, .int .u8 241, .int .u8 241, .int .u8 241, .int .u8 241, .int .u8 241, .int .u8 241, .int .u8 241, .int .u8 241, .int .u8 241, .int .u8 241, .int .u8 241, .int .u8 2, .int .u8 2, .int .u8 2, .int .u8 2, .int .u8 2, .int .u8 2, .int .u8 2, .int .u8 2, .int .u8 2, .int .u8 2, .int .u8 2, .int .u8 2, .int .u8 2, .int .u8 2, .int .u8 2, .int .u8 2, .int .u8 2, .int .u8 2, .int .u8 2, .int .u8 2, .int .u8 2, .int .u8 2, .int .u8 2, .int .u8 2, .int .u8 2, .int .u8 2, .int .u8 2, .int .u8 2, .int .u8 2, .int .u8 2, .int .u8 19, .int .u8 3, .int .u8 3, .int .u8 3, .int .u8 3, .int .u8 3, .int .u8 3, .int .u8 3, .int .u8 3, .int .u8 3, .int .u8 3, .int .u8 3, .int .u8 3, .int .u8 35, .int .u8 3, .int .u8 3, .int .u8 52, .int .u8 4, .int .u8 4, .int .u8 4, .int .u8 68, .int .u8 241, .int .u8 241, .int .u8 241, .int .u8 241, .int .u8 241, .int .u8 241, .int .u8 241, .int .u8 241, .int .u8 241, .int .u8 241, .int .u8 241])).modify 2 (fun o => lay o #[.int .u8 128, .int .u8 191, .int .u8 160, .int .u8 191, .int .u8 128, .int .u8 159, .int .u8 144, .int .u8 191, .int .u8 128, .int .u8 143, .int .u8 0, .int .u8 0, .int .u8 0, .int .u8 0, .int .u8 0, .int .u8 0, .int .u8 0, .int .u8 0, .int .u8 0, .int .u8 0, .int .u8 0, .int .u8 0, .int .u8 0, .int .u8 0, .int .u8 0, .int .u8 0, .int .u8 0, .int .u8 0, .int .u8 0, .int .u8 0, .int .u8 0, .int .u8 0]) }
end Go.Proofs.YtmjeefecjgfdjaaDoor
