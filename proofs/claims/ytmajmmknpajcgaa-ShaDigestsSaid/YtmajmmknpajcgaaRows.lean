/-
  No cell of these rows narrows 'for every input' (looked for: loops, veiled, ifaces, maps, wideKeys, modest, calm, conditions, laid).
  DERIVED. THE GIVEN ROWS OF THIS SEAT. 8 by the template 'for every input the law returns true; each argument reads behind the call as it read before'; 0 by the template 'total and deterministic' (their statements: YtmajmmknpajcgaaTotals.lean).
  GIVEN WITH THE SEED: the statements are not yours to turn. If you find one false, say at which input.
  Laid BY PROGRAM, IN A SANDBOX (cutbox-rows.mjs): the forced cells as the released guide's own fill.sh prints them over the translation 3e2fcaeef25cc55a… (all of the seat's roots in one cut). By AI agents, Wed Nov 11 2026. No macro, syntax, notation, axiom, sorry.
-/
import Derived.Test.YtmajmmknpajcgaaChecked
import GoSem.Claim
import GoSem.ClaimJoined
import GoSem.ClaimMapViews
import Derived.JoinedTies
import Derived.KernelRfl
namespace Go.Proofs.Ytmajmmknpajcgaa
/- THE CELL 'sum', in the pinned program and in every row, IS THE sha256 OF THE DUMP (.gsa) THAT YtmajmmknpajcgaaProg.lean LOADS. Nothing in Lean hashes anything: it is a label: what it is worth is what the hold of that sum in a sandbox is worth. -/
noncomputable def Try.pinned : Pinned := { name := "ytmajmmknpajcgaa", sum := "3e2fcaeef25cc55a6cf58b22a9fdf90619d2308a0cbebeca032fbb881e022537", checked := Try.checked }
namespace Rows
def none {H : Type} : Left H := { results := [], args := [] }

/-- 'incunablelaw04.ShaRoots': WHATEVER THE INPUT: true; the input reads as it did. -/
def shaRootsSpec : ChangeSpec := { name := "shaRoots", fn := fun _ => fun
  | [d1, d2] => { results := [.lit (.bool true)], args := [d1, d2] }
  | _ => none }
def shaRootsRow : OpenClaim := { program := "ytmajmmknpajcgaa", sum := "3e2fcaeef25cc55a6cf58b22a9fdf90619d2308a0cbebeca032fbb881e022537", func := "incunable/incunablelaw04.ShaRoots", spec := "shaRoots", inPlace := ["math/bits.Add64", "internal/bytealg.MakeNoZero", "internal/abi.NoEscape"], unfollowed := true, recurses := true, apart := false }
def ShaRootsSaid : Prop := shaRootsRow.holds Try.pinned (OpenSpec.ofChange shaRootsSpec)

/-- ITS FALSE NEIGHBOUR: 'it returns false'. Refute it at one input. -/
def shaRootsWrong : ChangeSpec := { name := "shaRoots", fn := fun _ => fun
  | [d1, d2] => { results := [.lit (.bool false)], args := [d1, d2] }
  | _ => none }
def ShaRootsWrongFalsely : Prop := shaRootsRow.holds Try.pinned (OpenSpec.ofChange shaRootsWrong)

/-- 'incunablelaw04.ShaBlocks': WHATEVER THE INPUT: true; the input reads as it did. -/
def shaBlocksSpec : ChangeSpec := { name := "shaBlocks", fn := fun _ => fun
  | [d1, d2] => { results := [.lit (.bool true)], args := [d1, d2] }
  | _ => none }
def shaBlocksRow : OpenClaim := { program := "ytmajmmknpajcgaa", sum := "3e2fcaeef25cc55a6cf58b22a9fdf90619d2308a0cbebeca032fbb881e022537", func := "incunable/incunablelaw04.ShaBlocks", spec := "shaBlocks", inPlace := ["math/bits.Add64", "internal/bytealg.MakeNoZero", "internal/abi.NoEscape"], unfollowed := true, recurses := true, apart := false }
def ShaBlocksSaid : Prop := shaBlocksRow.holds Try.pinned (OpenSpec.ofChange shaBlocksSpec)

/-- ITS FALSE NEIGHBOUR: 'it returns false'. Refute it at one input. -/
def shaBlocksWrong : ChangeSpec := { name := "shaBlocks", fn := fun _ => fun
  | [d1, d2] => { results := [.lit (.bool false)], args := [d1, d2] }
  | _ => none }
def ShaBlocksWrongFalsely : Prop := shaBlocksRow.holds Try.pinned (OpenSpec.ofChange shaBlocksWrong)

/-- 'incunablelaw04.ShaDigests': WHATEVER THE INPUT: true; the input reads as it did. -/
def shaDigestsSpec : ChangeSpec := { name := "shaDigests", fn := fun _ => fun
  | [d] => { results := [.lit (.bool true)], args := [d] }
  | _ => none }
def shaDigestsRow : OpenClaim := { program := "ytmajmmknpajcgaa", sum := "3e2fcaeef25cc55a6cf58b22a9fdf90619d2308a0cbebeca032fbb881e022537", func := "incunable/incunablelaw04.ShaDigests", spec := "shaDigests", inPlace := ["math/bits.Add64", "internal/bytealg.MakeNoZero", "internal/abi.NoEscape"], unfollowed := true, recurses := true, apart := false }
def ShaDigestsSaid : Prop := shaDigestsRow.holds Try.pinned (OpenSpec.ofChange shaDigestsSpec)

/-- ITS FALSE NEIGHBOUR: 'it returns false'. Refute it at one input. -/
def shaDigestsWrong : ChangeSpec := { name := "shaDigests", fn := fun _ => fun
  | [d] => { results := [.lit (.bool false)], args := [d] }
  | _ => none }
def ShaDigestsWrongFalsely : Prop := shaDigestsRow.holds Try.pinned (OpenSpec.ofChange shaDigestsWrong)

/-- 'incunablelaw04.ShaChain': WHATEVER THE INPUT: true; the input reads as it did. -/
def shaChainSpec : ChangeSpec := { name := "shaChain", fn := fun _ => fun
  | [d1, d2] => { results := [.lit (.bool true)], args := [d1, d2] }
  | _ => none }
def shaChainRow : OpenClaim := { program := "ytmajmmknpajcgaa", sum := "3e2fcaeef25cc55a6cf58b22a9fdf90619d2308a0cbebeca032fbb881e022537", func := "incunable/incunablelaw04.ShaChain", spec := "shaChain", inPlace := ["internal/bytealg.MakeNoZero", "math/bits.Add64", "internal/abi.NoEscape"], unfollowed := true, recurses := true, apart := false }
def ShaChainSaid : Prop := shaChainRow.holds Try.pinned (OpenSpec.ofChange shaChainSpec)

/-- ITS FALSE NEIGHBOUR: 'it returns false'. Refute it at one input. -/
def shaChainWrong : ChangeSpec := { name := "shaChain", fn := fun _ => fun
  | [d1, d2] => { results := [.lit (.bool false)], args := [d1, d2] }
  | _ => none }
def ShaChainWrongFalsely : Prop := shaChainRow.holds Try.pinned (OpenSpec.ofChange shaChainWrong)

/-- 'incunablelaw04.ShaPadded': WHATEVER THE INPUT: true; the input reads as it did. -/
def shaPaddedSpec : ChangeSpec := { name := "shaPadded", fn := fun _ => fun
  | [d] => { results := [.lit (.bool true)], args := [d] }
  | _ => none }
def shaPaddedRow : OpenClaim := { program := "ytmajmmknpajcgaa", sum := "3e2fcaeef25cc55a6cf58b22a9fdf90619d2308a0cbebeca032fbb881e022537", func := "incunable/incunablelaw04.ShaPadded", spec := "shaPadded", inPlace := ["internal/bytealg.MakeNoZero", "math/bits.Add64", "internal/abi.NoEscape"], unfollowed := true, recurses := true, apart := false }
def ShaPaddedSaid : Prop := shaPaddedRow.holds Try.pinned (OpenSpec.ofChange shaPaddedSpec)

/-- ITS FALSE NEIGHBOUR: 'it returns false'. Refute it at one input. -/
def shaPaddedWrong : ChangeSpec := { name := "shaPadded", fn := fun _ => fun
  | [d] => { results := [.lit (.bool false)], args := [d] }
  | _ => none }
def ShaPaddedWrongFalsely : Prop := shaPaddedRow.holds Try.pinned (OpenSpec.ofChange shaPaddedWrong)

/-- 'incunablelaw04.ShaSquares': WHATEVER THE INPUT: true; the input reads as it did. -/
def shaSquaresSpec : ChangeSpec := { name := "shaSquares", fn := fun _ => fun
  | [d] => { results := [.lit (.bool true)], args := [d] }
  | _ => none }
def shaSquaresRow : OpenClaim := { program := "ytmajmmknpajcgaa", sum := "3e2fcaeef25cc55a6cf58b22a9fdf90619d2308a0cbebeca032fbb881e022537", func := "incunable/incunablelaw04.ShaSquares", spec := "shaSquares", inPlace := ["math/bits.Add64", "internal/bytealg.MakeNoZero", "internal/abi.NoEscape"], unfollowed := true, recurses := true, apart := false }
def ShaSquaresSaid : Prop := shaSquaresRow.holds Try.pinned (OpenSpec.ofChange shaSquaresSpec)

/-- ITS FALSE NEIGHBOUR: 'it returns false'. Refute it at one input. -/
def shaSquaresWrong : ChangeSpec := { name := "shaSquares", fn := fun _ => fun
  | [d] => { results := [.lit (.bool false)], args := [d] }
  | _ => none }
def ShaSquaresWrongFalsely : Prop := shaSquaresRow.holds Try.pinned (OpenSpec.ofChange shaSquaresWrong)

/-- 'incunablelaw04.ShaWrites': WHATEVER THE INPUT: true; the input reads as it did. -/
def shaWritesSpec : ChangeSpec := { name := "shaWrites", fn := fun _ => fun
  | [d1, d2] => { results := [.lit (.bool true)], args := [d1, d2] }
  | _ => none }
def shaWritesRow : OpenClaim := { program := "ytmajmmknpajcgaa", sum := "3e2fcaeef25cc55a6cf58b22a9fdf90619d2308a0cbebeca032fbb881e022537", func := "incunable/incunablelaw04.ShaWrites", spec := "shaWrites", inPlace := ["internal/bytealg.IndexByteString", "internal/abi.NoEscape", "math/bits.Add64", "internal/bytealg.MakeNoZero"], unfollowed := true, recurses := true, apart := false }
def ShaWritesSaid : Prop := shaWritesRow.holds Try.pinned (OpenSpec.ofChange shaWritesSpec)

/-- ITS FALSE NEIGHBOUR: 'it returns false'. Refute it at one input. -/
def shaWritesWrong : ChangeSpec := { name := "shaWrites", fn := fun _ => fun
  | [d1, d2] => { results := [.lit (.bool false)], args := [d1, d2] }
  | _ => none }
def ShaWritesWrongFalsely : Prop := shaWritesRow.holds Try.pinned (OpenSpec.ofChange shaWritesWrong)

/-- 'incunablelaw04.ShaBack': WHATEVER THE INPUT: true; the input reads as it did. -/
def shaBackSpec : ChangeSpec := { name := "shaBack", fn := fun _ => fun
  | [d1, d2] => { results := [.lit (.bool true)], args := [d1, d2] }
  | _ => none }
def shaBackRow : OpenClaim := { program := "ytmajmmknpajcgaa", sum := "3e2fcaeef25cc55a6cf58b22a9fdf90619d2308a0cbebeca032fbb881e022537", func := "incunable/incunablelaw04.ShaBack", spec := "shaBack", inPlace := ["internal/abi.NoEscape", "internal/bytealg.IndexByteString", "math/bits.Add64", "internal/bytealg.MakeNoZero"], unfollowed := true, recurses := true, apart := false }
def ShaBackSaid : Prop := shaBackRow.holds Try.pinned (OpenSpec.ofChange shaBackSpec)

/-- ITS FALSE NEIGHBOUR: 'it returns false'. Refute it at one input. -/
def shaBackWrong : ChangeSpec := { name := "shaBack", fn := fun _ => fun
  | [d1, d2] => { results := [.lit (.bool false)], args := [d1, d2] }
  | _ => none }
def ShaBackWrongFalsely : Prop := shaBackRow.holds Try.pinned (OpenSpec.ofChange shaBackWrong)

/- THE SECOND FORM. 'bulk': how many values and letters a reading holds, each counted each time it is reached (what is shared counts as often as it is met; a slice's spare places count too). A statement '..UptoSaid' is the law's where the arguments, and the package variables that the reading takes, are together of bulk at most 1048576: NARROWER than '..Said'. Prove '..Said' where nothing that the law and all that it calls make is longer than what came in: it says more and counts as full. Else prove '..UptoSaid'. A law counts once. -/
mutual
def uptoBulk {H : Type} : DataW H → Nat
  | .lit (.string bytes) => bytes.length + 1
  | .lit _ => 1
  | .nil => 1
  | .ptr d => uptoBulk d + 1
  | .slice elems spare => uptoBulkAll elems + uptoBulkAll spare + 1
  | .agg parts => uptoBulkAll parts + 1
  | .iface _ d => uptoBulk d + 1
  | .map entries => uptoBulkEntries entries + 1
  | .held _ => 1
def uptoBulkAll {H : Type} : List (DataW H) → Nat
  | [] => 0
  | d :: r => uptoBulk d + uptoBulkAll r
def uptoBulkEntries {H : Type} : List (Lit × DataW H) → Nat
  | [] => 0
  | x :: r => uptoBulkEntry x + uptoBulkEntries r
def uptoBulkEntry {H : Type} : Lit × DataW H → Nat
  | (.string bytes, d) => bytes.length + uptoBulk d + 1
  | (_, d) => uptoBulk d + 1
 end
def uptoSmall : (H : Type) → List (DataW H) → Bool := fun _ ds => decide (uptoBulkAll ds ≤ 1048576)
def OpenSpec.upto (s : _root_.Go.ChangeSpec) : _root_.Go.OpenSpec := { _root_.Go.OpenSpec.ofChange s with cond := some uptoSmall }

/-- 'incunablelaw04.ShaRoots', WHERE WHAT IT READS IS OF BULK AT MOST 1048576: true; the input reads as it did. -/
def shaRootsUptoRow : OpenClaim := { program := "ytmajmmknpajcgaa", sum := "3e2fcaeef25cc55a6cf58b22a9fdf90619d2308a0cbebeca032fbb881e022537", func := "incunable/incunablelaw04.ShaRoots", spec := "shaRoots", inPlace := ["math/bits.Add64", "internal/bytealg.MakeNoZero", "internal/abi.NoEscape"], unfollowed := true, recurses := true, apart := false, narrowed := true }
def ShaRootsUptoSaid : Prop := shaRootsUptoRow.holds Try.pinned (OpenSpec.upto shaRootsSpec)

/-- 'incunablelaw04.ShaBlocks', WHERE WHAT IT READS IS OF BULK AT MOST 1048576: true; the input reads as it did. -/
def shaBlocksUptoRow : OpenClaim := { program := "ytmajmmknpajcgaa", sum := "3e2fcaeef25cc55a6cf58b22a9fdf90619d2308a0cbebeca032fbb881e022537", func := "incunable/incunablelaw04.ShaBlocks", spec := "shaBlocks", inPlace := ["math/bits.Add64", "internal/bytealg.MakeNoZero", "internal/abi.NoEscape"], unfollowed := true, recurses := true, apart := false, narrowed := true }
def ShaBlocksUptoSaid : Prop := shaBlocksUptoRow.holds Try.pinned (OpenSpec.upto shaBlocksSpec)

/-- 'incunablelaw04.ShaDigests', WHERE WHAT IT READS IS OF BULK AT MOST 1048576: true; the input reads as it did. -/
def shaDigestsUptoRow : OpenClaim := { program := "ytmajmmknpajcgaa", sum := "3e2fcaeef25cc55a6cf58b22a9fdf90619d2308a0cbebeca032fbb881e022537", func := "incunable/incunablelaw04.ShaDigests", spec := "shaDigests", inPlace := ["math/bits.Add64", "internal/bytealg.MakeNoZero", "internal/abi.NoEscape"], unfollowed := true, recurses := true, apart := false, narrowed := true }
def ShaDigestsUptoSaid : Prop := shaDigestsUptoRow.holds Try.pinned (OpenSpec.upto shaDigestsSpec)

/-- 'incunablelaw04.ShaChain', WHERE WHAT IT READS IS OF BULK AT MOST 1048576: true; the input reads as it did. -/
def shaChainUptoRow : OpenClaim := { program := "ytmajmmknpajcgaa", sum := "3e2fcaeef25cc55a6cf58b22a9fdf90619d2308a0cbebeca032fbb881e022537", func := "incunable/incunablelaw04.ShaChain", spec := "shaChain", inPlace := ["internal/bytealg.MakeNoZero", "math/bits.Add64", "internal/abi.NoEscape"], unfollowed := true, recurses := true, apart := false, narrowed := true }
def ShaChainUptoSaid : Prop := shaChainUptoRow.holds Try.pinned (OpenSpec.upto shaChainSpec)

/-- 'incunablelaw04.ShaPadded', WHERE WHAT IT READS IS OF BULK AT MOST 1048576: true; the input reads as it did. -/
def shaPaddedUptoRow : OpenClaim := { program := "ytmajmmknpajcgaa", sum := "3e2fcaeef25cc55a6cf58b22a9fdf90619d2308a0cbebeca032fbb881e022537", func := "incunable/incunablelaw04.ShaPadded", spec := "shaPadded", inPlace := ["internal/bytealg.MakeNoZero", "math/bits.Add64", "internal/abi.NoEscape"], unfollowed := true, recurses := true, apart := false, narrowed := true }
def ShaPaddedUptoSaid : Prop := shaPaddedUptoRow.holds Try.pinned (OpenSpec.upto shaPaddedSpec)

/-- 'incunablelaw04.ShaSquares', WHERE WHAT IT READS IS OF BULK AT MOST 1048576: true; the input reads as it did. -/
def shaSquaresUptoRow : OpenClaim := { program := "ytmajmmknpajcgaa", sum := "3e2fcaeef25cc55a6cf58b22a9fdf90619d2308a0cbebeca032fbb881e022537", func := "incunable/incunablelaw04.ShaSquares", spec := "shaSquares", inPlace := ["math/bits.Add64", "internal/bytealg.MakeNoZero", "internal/abi.NoEscape"], unfollowed := true, recurses := true, apart := false, narrowed := true }
def ShaSquaresUptoSaid : Prop := shaSquaresUptoRow.holds Try.pinned (OpenSpec.upto shaSquaresSpec)

/-- 'incunablelaw04.ShaWrites', WHERE WHAT IT READS IS OF BULK AT MOST 1048576: true; the input reads as it did. -/
def shaWritesUptoRow : OpenClaim := { program := "ytmajmmknpajcgaa", sum := "3e2fcaeef25cc55a6cf58b22a9fdf90619d2308a0cbebeca032fbb881e022537", func := "incunable/incunablelaw04.ShaWrites", spec := "shaWrites", inPlace := ["internal/bytealg.IndexByteString", "internal/abi.NoEscape", "math/bits.Add64", "internal/bytealg.MakeNoZero"], unfollowed := true, recurses := true, apart := false, narrowed := true }
def ShaWritesUptoSaid : Prop := shaWritesUptoRow.holds Try.pinned (OpenSpec.upto shaWritesSpec)

/-- 'incunablelaw04.ShaBack', WHERE WHAT IT READS IS OF BULK AT MOST 1048576: true; the input reads as it did. -/
def shaBackUptoRow : OpenClaim := { program := "ytmajmmknpajcgaa", sum := "3e2fcaeef25cc55a6cf58b22a9fdf90619d2308a0cbebeca032fbb881e022537", func := "incunable/incunablelaw04.ShaBack", spec := "shaBack", inPlace := ["internal/abi.NoEscape", "internal/bytealg.IndexByteString", "math/bits.Add64", "internal/bytealg.MakeNoZero"], unfollowed := true, recurses := true, apart := false, narrowed := true }
def ShaBackUptoSaid : Prop := shaBackUptoRow.holds Try.pinned (OpenSpec.upto shaBackSpec)

end Rows
end Go.Proofs.Ytmajmmknpajcgaa
