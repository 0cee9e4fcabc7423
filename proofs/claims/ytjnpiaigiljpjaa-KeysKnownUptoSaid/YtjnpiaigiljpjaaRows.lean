/-
  No cell of these rows narrows 'for every input' (looked for: loops, veiled, ifaces, maps, wideKeys, modest, calm, conditions, laid).
  DERIVED. THE GIVEN ROWS OF THIS SEAT. 7 by the template 'for every input the law returns true; each argument reads behind the call as it read before'; 0 by the template 'total and deterministic' (their statements: YtjnpiaigiljpjaaTotals.lean).
  GIVEN WITH THE SEED: the statements are not yours to turn. If you find one false, say at which input.
  Laid BY PROGRAM, IN A SANDBOX (cutbox-rows.mjs): the forced cells as the released guide's own fill.sh prints them over the translation 465b9ed9724091e7… (all of the seat's roots in one cut). By AI agents, Wed Nov 11 2026. No macro, syntax, notation, axiom, sorry.
-/
import Derived.Test.YtjnpiaigiljpjaaChecked
import GoSem.Claim
import GoSem.ClaimJoined
import GoSem.ClaimMapViews
import Derived.JoinedTies
import Derived.KernelRfl
namespace Go.Proofs.Ytjnpiaigiljpjaa
/- THE CELL 'sum', in the pinned program and in every row, IS THE sha256 OF THE DUMP (.gsa) THAT YtjnpiaigiljpjaaProg.lean LOADS. Nothing in Lean hashes anything: it is a label: what it is worth is what the hold of that sum in a sandbox is worth. -/
noncomputable def Try.pinned : Pinned := { name := "ytjnpiaigiljpjaa", sum := "465b9ed9724091e7a8555c582a85676a7721585deed71f77fba9500c817e7506", checked := Try.checked }
namespace Rows
def none {H : Type} : Left H := { results := [], args := [] }

/-- 'incunablelaw25.KeysFiles': WHATEVER THE INPUT: true; the input reads as it did. -/
def keysFilesSpec : ChangeSpec := { name := "keysFiles", fn := fun _ => fun
  | [d1, d2] => { results := [.lit (.bool true)], args := [d1, d2] }
  | _ => none }
def keysFilesRow : OpenClaim := { program := "ytjnpiaigiljpjaa", sum := "465b9ed9724091e7a8555c582a85676a7721585deed71f77fba9500c817e7506", func := "incunable/incunablelaw25.KeysFiles", spec := "keysFiles", apart := false }
def KeysFilesSaid : Prop := keysFilesRow.holds Try.pinned (OpenSpec.ofChange keysFilesSpec)

/-- ITS FALSE NEIGHBOUR: 'it returns false'. Refute it at one input. -/
def keysFilesWrong : ChangeSpec := { name := "keysFiles", fn := fun _ => fun
  | [d1, d2] => { results := [.lit (.bool false)], args := [d1, d2] }
  | _ => none }
def KeysFilesWrongFalsely : Prop := keysFilesRow.holds Try.pinned (OpenSpec.ofChange keysFilesWrong)

/-- 'incunablelaw25.KeysBytes': WHATEVER THE INPUT: true; the input reads as it did. -/
def keysBytesSpec : ChangeSpec := { name := "keysBytes", fn := fun _ => fun
  | [d1, d2] => { results := [.lit (.bool true)], args := [d1, d2] }
  | _ => none }
def keysBytesRow : OpenClaim := { program := "ytjnpiaigiljpjaa", sum := "465b9ed9724091e7a8555c582a85676a7721585deed71f77fba9500c817e7506", func := "incunable/incunablelaw25.KeysBytes", spec := "keysBytes", apart := false }
def KeysBytesSaid : Prop := keysBytesRow.holds Try.pinned (OpenSpec.ofChange keysBytesSpec)

/-- ITS FALSE NEIGHBOUR: 'it returns false'. Refute it at one input. -/
def keysBytesWrong : ChangeSpec := { name := "keysBytes", fn := fun _ => fun
  | [d1, d2] => { results := [.lit (.bool false)], args := [d1, d2] }
  | _ => none }
def KeysBytesWrongFalsely : Prop := keysBytesRow.holds Try.pinned (OpenSpec.ofChange keysBytesWrong)

/-- 'incunablelaw25.KeysPatterns': WHATEVER THE INPUT: true; the input reads as it did. -/
def keysPatternsSpec : ChangeSpec := { name := "keysPatterns", fn := fun _ => fun
  | [d1, d2] => { results := [.lit (.bool true)], args := [d1, d2] }
  | _ => none }
def keysPatternsRow : OpenClaim := { program := "ytjnpiaigiljpjaa", sum := "465b9ed9724091e7a8555c582a85676a7721585deed71f77fba9500c817e7506", func := "incunable/incunablelaw25.KeysPatterns", spec := "keysPatterns", apart := false }
def KeysPatternsSaid : Prop := keysPatternsRow.holds Try.pinned (OpenSpec.ofChange keysPatternsSpec)

/-- ITS FALSE NEIGHBOUR: 'it returns false'. Refute it at one input. -/
def keysPatternsWrong : ChangeSpec := { name := "keysPatterns", fn := fun _ => fun
  | [d1, d2] => { results := [.lit (.bool false)], args := [d1, d2] }
  | _ => none }
def KeysPatternsWrongFalsely : Prop := keysPatternsRow.holds Try.pinned (OpenSpec.ofChange keysPatternsWrong)

/-- 'incunablelaw25.KeysGrammars': WHATEVER THE INPUT: true; the input reads as it did. -/
def keysGrammarsSpec : ChangeSpec := { name := "keysGrammars", fn := fun _ => fun
  | [d] => { results := [.lit (.bool true)], args := [d] }
  | _ => none }
def keysGrammarsRow : OpenClaim := { program := "ytjnpiaigiljpjaa", sum := "465b9ed9724091e7a8555c582a85676a7721585deed71f77fba9500c817e7506", func := "incunable/incunablelaw25.KeysGrammars", spec := "keysGrammars", apart := false }
def KeysGrammarsSaid : Prop := keysGrammarsRow.holds Try.pinned (OpenSpec.ofChange keysGrammarsSpec)

/-- ITS FALSE NEIGHBOUR: 'it returns false'. Refute it at one input. -/
def keysGrammarsWrong : ChangeSpec := { name := "keysGrammars", fn := fun _ => fun
  | [d] => { results := [.lit (.bool false)], args := [d] }
  | _ => none }
def KeysGrammarsWrongFalsely : Prop := keysGrammarsRow.holds Try.pinned (OpenSpec.ofChange keysGrammarsWrong)

/-- 'incunablelaw25.KeysApart': WHATEVER THE INPUT: true; the input reads as it did. -/
def keysApartSpec : ChangeSpec := { name := "keysApart", fn := fun _ => fun
  | [d1, d2] => { results := [.lit (.bool true)], args := [d1, d2] }
  | _ => none }
def keysApartRow : OpenClaim := { program := "ytjnpiaigiljpjaa", sum := "465b9ed9724091e7a8555c582a85676a7721585deed71f77fba9500c817e7506", func := "incunable/incunablelaw25.KeysApart", spec := "keysApart", apart := false }
def KeysApartSaid : Prop := keysApartRow.holds Try.pinned (OpenSpec.ofChange keysApartSpec)

/-- ITS FALSE NEIGHBOUR: 'it returns false'. Refute it at one input. -/
def keysApartWrong : ChangeSpec := { name := "keysApart", fn := fun _ => fun
  | [d1, d2] => { results := [.lit (.bool false)], args := [d1, d2] }
  | _ => none }
def KeysApartWrongFalsely : Prop := keysApartRow.holds Try.pinned (OpenSpec.ofChange keysApartWrong)

/-- 'incunablelaw25.KeysKinds': WHATEVER THE INPUT: true; the input reads as it did. -/
def keysKindsSpec : ChangeSpec := { name := "keysKinds", fn := fun _ => fun
  | [d1, d2, d3] => { results := [.lit (.bool true)], args := [d1, d2, d3] }
  | _ => none }
def keysKindsRow : OpenClaim := { program := "ytjnpiaigiljpjaa", sum := "465b9ed9724091e7a8555c582a85676a7721585deed71f77fba9500c817e7506", func := "incunable/incunablelaw25.KeysKinds", spec := "keysKinds", apart := false }
def KeysKindsSaid : Prop := keysKindsRow.holds Try.pinned (OpenSpec.ofChange keysKindsSpec)

/-- ITS FALSE NEIGHBOUR: 'it returns false'. Refute it at one input. -/
def keysKindsWrong : ChangeSpec := { name := "keysKinds", fn := fun _ => fun
  | [d1, d2, d3] => { results := [.lit (.bool false)], args := [d1, d2, d3] }
  | _ => none }
def KeysKindsWrongFalsely : Prop := keysKindsRow.holds Try.pinned (OpenSpec.ofChange keysKindsWrong)

/-- 'incunablelaw25.KeysKnown': WHATEVER THE INPUT: true; the input reads as it did. -/
def keysKnownSpec : ChangeSpec := { name := "keysKnown", fn := fun _ => fun
  | [] => { results := [.lit (.bool true)], args := [] }
  | _ => none }
def keysKnownRow : OpenClaim := { program := "ytjnpiaigiljpjaa", sum := "465b9ed9724091e7a8555c582a85676a7721585deed71f77fba9500c817e7506", func := "incunable/incunablelaw25.KeysKnown", spec := "keysKnown", inPlace := ["internal/abi.NoEscape", "internal/bytealg.MakeNoZero"], apart := false }
def KeysKnownSaid : Prop := keysKnownRow.holds Try.pinned (OpenSpec.ofChange keysKnownSpec)

/-- ITS FALSE NEIGHBOUR: 'it returns false'. Refute it at one input. -/
def keysKnownWrong : ChangeSpec := { name := "keysKnown", fn := fun _ => fun
  | [] => { results := [.lit (.bool false)], args := [] }
  | _ => none }
def KeysKnownWrongFalsely : Prop := keysKnownRow.holds Try.pinned (OpenSpec.ofChange keysKnownWrong)

/- THE SECOND FORM. 'bulk': how many values and letters a reading holds, each counted each time it is reached (what is shared counts as often as it is met; a slice's spare places count too). A statement '..UptoSaid' is the law's where the arguments, and the package variables that the reading takes, are together of bulk at most 1048576: NARROWER than '..Said'. Prove '..Said' where nothing that the law and all that it calls make is longer than what came in: it says more and counts as full. Else prove '..UptoSaid'. A law counts once. -/
mutual
def uptoBulk {H : Type} : DataW H → Nat
  | .lit (.string bytes) => bytes.length + 1
  | .lit _ => 1
  | .nil => 1
  | .ptr d => uptoBulk d + 1
  | .slice elems spare => uptoBulkAll elems + uptoBulkAll spare + 1
  | .agg parts => uptoBulkAll parts + 1
  | .iface _ d => uptoBulk d + 1
  | .map entries => uptoBulkEntries entries + 1
  | .held _ => 1
def uptoBulkAll {H : Type} : List (DataW H) → Nat
  | [] => 0
  | d :: r => uptoBulk d + uptoBulkAll r
def uptoBulkEntries {H : Type} : List (Lit × DataW H) → Nat
  | [] => 0
  | x :: r => uptoBulkEntry x + uptoBulkEntries r
def uptoBulkEntry {H : Type} : Lit × DataW H → Nat
  | (.string bytes, d) => bytes.length + uptoBulk d + 1
  | (_, d) => uptoBulk d + 1
 end
def uptoSmall : (H : Type) → List (DataW H) → Bool := fun _ ds => decide (uptoBulkAll ds ≤ 1048576)
def OpenSpec.upto (s : _root_.Go.ChangeSpec) : _root_.Go.OpenSpec := { _root_.Go.OpenSpec.ofChange s with cond := some uptoSmall }

/-- 'incunablelaw25.KeysFiles', WHERE WHAT IT READS IS OF BULK AT MOST 1048576: true; the input reads as it did. -/
def keysFilesUptoRow : OpenClaim := { program := "ytjnpiaigiljpjaa", sum := "465b9ed9724091e7a8555c582a85676a7721585deed71f77fba9500c817e7506", func := "incunable/incunablelaw25.KeysFiles", spec := "keysFiles", apart := false, narrowed := true }
def KeysFilesUptoSaid : Prop := keysFilesUptoRow.holds Try.pinned (OpenSpec.upto keysFilesSpec)

/-- 'incunablelaw25.KeysBytes', WHERE WHAT IT READS IS OF BULK AT MOST 1048576: true; the input reads as it did. -/
def keysBytesUptoRow : OpenClaim := { program := "ytjnpiaigiljpjaa", sum := "465b9ed9724091e7a8555c582a85676a7721585deed71f77fba9500c817e7506", func := "incunable/incunablelaw25.KeysBytes", spec := "keysBytes", apart := false, narrowed := true }
def KeysBytesUptoSaid : Prop := keysBytesUptoRow.holds Try.pinned (OpenSpec.upto keysBytesSpec)

/-- 'incunablelaw25.KeysPatterns', WHERE WHAT IT READS IS OF BULK AT MOST 1048576: true; the input reads as it did. -/
def keysPatternsUptoRow : OpenClaim := { program := "ytjnpiaigiljpjaa", sum := "465b9ed9724091e7a8555c582a85676a7721585deed71f77fba9500c817e7506", func := "incunable/incunablelaw25.KeysPatterns", spec := "keysPatterns", apart := false, narrowed := true }
def KeysPatternsUptoSaid : Prop := keysPatternsUptoRow.holds Try.pinned (OpenSpec.upto keysPatternsSpec)

/-- 'incunablelaw25.KeysGrammars', WHERE WHAT IT READS IS OF BULK AT MOST 1048576: true; the input reads as it did. -/
def keysGrammarsUptoRow : OpenClaim := { program := "ytjnpiaigiljpjaa", sum := "465b9ed9724091e7a8555c582a85676a7721585deed71f77fba9500c817e7506", func := "incunable/incunablelaw25.KeysGrammars", spec := "keysGrammars", apart := false, narrowed := true }
def KeysGrammarsUptoSaid : Prop := keysGrammarsUptoRow.holds Try.pinned (OpenSpec.upto keysGrammarsSpec)

/-- 'incunablelaw25.KeysApart', WHERE WHAT IT READS IS OF BULK AT MOST 1048576: true; the input reads as it did. -/
def keysApartUptoRow : OpenClaim := { program := "ytjnpiaigiljpjaa", sum := "465b9ed9724091e7a8555c582a85676a7721585deed71f77fba9500c817e7506", func := "incunable/incunablelaw25.KeysApart", spec := "keysApart", apart := false, narrowed := true }
def KeysApartUptoSaid : Prop := keysApartUptoRow.holds Try.pinned (OpenSpec.upto keysApartSpec)

/-- 'incunablelaw25.KeysKinds', WHERE WHAT IT READS IS OF BULK AT MOST 1048576: true; the input reads as it did. -/
def keysKindsUptoRow : OpenClaim := { program := "ytjnpiaigiljpjaa", sum := "465b9ed9724091e7a8555c582a85676a7721585deed71f77fba9500c817e7506", func := "incunable/incunablelaw25.KeysKinds", spec := "keysKinds", apart := false, narrowed := true }
def KeysKindsUptoSaid : Prop := keysKindsUptoRow.holds Try.pinned (OpenSpec.upto keysKindsSpec)

/-- 'incunablelaw25.KeysKnown', WHERE WHAT IT READS IS OF BULK AT MOST 1048576: true; the input reads as it did. -/
def keysKnownUptoRow : OpenClaim := { program := "ytjnpiaigiljpjaa", sum := "465b9ed9724091e7a8555c582a85676a7721585deed71f77fba9500c817e7506", func := "incunable/incunablelaw25.KeysKnown", spec := "keysKnown", inPlace := ["internal/abi.NoEscape", "internal/bytealg.MakeNoZero"], apart := false, narrowed := true }
def KeysKnownUptoSaid : Prop := keysKnownUptoRow.holds Try.pinned (OpenSpec.upto keysKnownSpec)

end Rows
end Go.Proofs.Ytjnpiaigiljpjaa
