/- What the rows lean on: calls told ahead, kinds of the program's types. -/
import Derived.Test.YtmajmmknpajcgaaRows
import Derived.Test.YtmajmmknpajcgaaSE
import Derived.Test.YtmajmmknpajcgaaSF
import Derived.Test.YtmajmmknpajcgaaEnhX
import Derived.JoinedCond
import Derived.KernelRfl
set_option linter.unusedVariables false
set_option linter.unusedSimpArgs false
namespace Go.Proofs.Ytmajmmknpajcgaa
open Go Go.Eng Go.ChangeShapes Go.WideShapes Go.RowKit

theorem EE_sound : ExtSound Try.prog false EE := E0_sound
theorem EE_mono : ExtMono EE := E0_mono
theorem own : ownKnob Try.prog.godebug = none := by kernel_rfl
theorem laidOut : laidOutB Try.prog = true := by kernel_rfl
theorem o_int : Opens Try.prog 3 Int := opens_int Try.underlying3 (by kernel_rfl)
theorem o_bytes : Opens Try.prog 29 (List UInt8) := opens_list Try.underlying29 (by kernel_rfl) (by decide) (opens_u8 Try.underlying5 (by kernel_rfl))
theorem o_words : Opens Try.prog 28 (Arr 8 UInt32) := opens_array Try.underlying28 (by kernel_rfl) (opens_u32 Try.underlying22 (by kernel_rfl))
theorem o_dig : Opens Try.prog 35 (Arr 32 UInt8) := opens_array Try.underlying35 (by kernel_rfl) (opens_u8 Try.underlying5 (by kernel_rfl))
theorem opens_txt {P : Program} {t : TypeId} (h : Opens P t ByteArray) : Opens P t Txt := ⟨h.1, fun enc w fuel cs d ps ht W hW => by
  obtain ⟨V, x, acs, h1, h2, h3, h4⟩ := h.2 enc w fuel cs d ps ht W hW
  exact ⟨V, x.data.toList, acs, h1, h2, by show acs = [.string (bs x.data.toList)]; rw [← bs_of]; exact h3, h4⟩⟩
theorem o_str : Opens Try.prog 9 Txt := opens_txt (opens_str Try.underlying9 (by kernel_rfl))
theorem rep_byte : ∀ {R : Nat → Prop} {H : Heap} {l : List UInt8} {cs : List Value}, RpL R H l cs → cs = B (U l)
  | _, _, [], _, h => by cases h; rfl
  | _, _, x :: l, _, h => by
    cases h with
    | cons h1 h2 =>
      rw [rep_byte h2]
      show _ = _
      have : _ = [Value.int .u8 (x.toNat : Int)] := h1
      rw [this]; rfl
theorem rep_bytes {R : Nat → Prop} {H : Heap} {l : List UInt8} {v : Value} (h : Rp.rep R H l [v]) : Sl R H 1 v (U l).length (B (U l)) := by
  obtain ⟨v', hv, cs, h1, h2⟩ := h
  obtain rfl : v = v' := by simpa using hv
  have := rep_byte h2
  subst this
  rw [U_len]
  exact h1
theorem rep_dig {R : Nat → Prop} {H : Heap} {x : Arr 32 UInt8} {cs : List Value} (h : Rp.rep R H x cs) : ∃ ds : List UInt8, ds.length = 32 ∧ cs = B (U ds) := by
  obtain ⟨l, hl⟩ := x
  exact ⟨l, hl, rep_byte h⟩
theorem rep_word : ∀ {R : Nat → Prop} {H : Heap} {l : List UInt32} {cs : List Value}, RpL R H l cs → cs = WC l
  | _, _, [], _, h => by cases h; rfl
  | _, _, x :: l, _, h => by
    cases h with
    | cons h1 h2 =>
      rw [rep_word h2]
      have : _ = [Value.int .u32 (x.toNat : Int)] := h1
      rw [this]; rfl
end Go.Proofs.Ytmajmmknpajcgaa
