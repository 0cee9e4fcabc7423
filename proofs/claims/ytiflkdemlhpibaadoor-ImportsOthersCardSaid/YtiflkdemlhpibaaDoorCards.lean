/-
  DERIVED. GIVEN WITH THE SEED: THE CARDS: each row of YtiflkdemlhpibaaDoorRows.lean that lists a variable, with what it lists TIED to the program's text (the seventh form; the later family's looks); each row that meets fmt, with fmt's text TOLD by the authors' own Lean function (tested against real Go, not proved from fmt's source: count such statements apart). THE CARD IS WHAT COUNTS. Prove the row's statement (the work); the ties are given (YtiflkdemlhpibaaDoorTie.lean); close each card by the builder's one call (the guide's Derived/Test/ToyasCard.lean, 'card_holds'). Laid BY PROGRAM, IN A SANDBOX (cutbox-door.mjs). By AI agents, Wed Nov 11 2026. No macro, syntax, notation, axiom, sorry.
-/
import Derived.Test.YtiflkdemlhpibaaDoorRows
import GoSem.ClaimSeven
namespace Go.Proofs.YtiflkdemlhpibaaDoor
namespace Rows

/-- THE TIED CARD OF 'incunablelaw16.ImportsBehind'. -/
def importsBehindCard : Claim7 := { stood := { row := importsBehindRow, standIns := [], harness := (true, "43857f87caf26214d3bc32e22870fb9aa8251fd9dde717a45da4b6dba6cd497e"), looks := false }, kinds := [], alts := [], laidByText := true, laidKinds := [.data, .data, .data], laidTests := true, laidLooks := .later }
def ImportsBehindCardSaid : Prop := Claim7.holds Tryd.pinned (.plain (OpenSpec.ofChange importsBehindSpec)) importsBehindCard

/-- THE TIED CARD OF 'incunablelaw16.ImportsJust'. -/
def importsJustCard : Claim7 := { stood := { row := importsJustRow, standIns := [], harness := (true, "43857f87caf26214d3bc32e22870fb9aa8251fd9dde717a45da4b6dba6cd497e"), looks := false }, kinds := [], alts := [], laidByText := true, laidKinds := [.data, .data, .data], laidTests := true, laidLooks := .later }
def ImportsJustCardSaid : Prop := Claim7.holds Tryd.pinned (.plain (OpenSpec.ofChange importsJustSpec)) importsJustCard

/-- THE TIED CARD OF 'incunablelaw16.ImportsOthers'. -/
def importsOthersCard : Claim7 := { stood := { row := importsOthersRow, standIns := [], harness := (true, "43857f87caf26214d3bc32e22870fb9aa8251fd9dde717a45da4b6dba6cd497e"), looks := false }, kinds := [], alts := [], laidByText := true, laidKinds := [.data, .data, .data], laidTests := true, laidLooks := .later }
def ImportsOthersCardSaid : Prop := Claim7.holds Tryd.pinned (.plain (OpenSpec.ofChange importsOthersSpec)) importsOthersCard

/-- THE TIED CARD OF 'incunablelaw16.ImportsKnown'. -/
def importsKnownCard : Claim7 := { stood := { row := importsKnownRow, standIns := [], harness := (true, "43857f87caf26214d3bc32e22870fb9aa8251fd9dde717a45da4b6dba6cd497e"), looks := false }, kinds := [], alts := [], laidByText := true, laidKinds := [.data, .data, .data], laidTests := true, laidLooks := .later }
def ImportsKnownCardSaid : Prop := Claim7.holds Tryd.pinned (.plain (OpenSpec.ofChange importsKnownSpec)) importsKnownCard

/-- THE SECOND FORM's CARD OF 'incunablelaw16.ImportsBehind'. -/
def importsBehindUptoCard : Claim7 := { stood := { row := importsBehindUptoRow, standIns := [], harness := (true, "43857f87caf26214d3bc32e22870fb9aa8251fd9dde717a45da4b6dba6cd497e"), looks := false }, kinds := [], alts := [], laidByText := true, laidKinds := [.data, .data, .data], laidTests := true, laidLooks := .later }
def ImportsBehindUptoCardSaid : Prop := Claim7.holds Tryd.pinned (.plain (OpenSpec.upto importsBehindSpec)) importsBehindUptoCard

/-- THE SECOND FORM's CARD OF 'incunablelaw16.ImportsJust'. -/
def importsJustUptoCard : Claim7 := { stood := { row := importsJustUptoRow, standIns := [], harness := (true, "43857f87caf26214d3bc32e22870fb9aa8251fd9dde717a45da4b6dba6cd497e"), looks := false }, kinds := [], alts := [], laidByText := true, laidKinds := [.data, .data, .data], laidTests := true, laidLooks := .later }
def ImportsJustUptoCardSaid : Prop := Claim7.holds Tryd.pinned (.plain (OpenSpec.upto importsJustSpec)) importsJustUptoCard

/-- THE SECOND FORM's CARD OF 'incunablelaw16.ImportsOthers'. -/
def importsOthersUptoCard : Claim7 := { stood := { row := importsOthersUptoRow, standIns := [], harness := (true, "43857f87caf26214d3bc32e22870fb9aa8251fd9dde717a45da4b6dba6cd497e"), looks := false }, kinds := [], alts := [], laidByText := true, laidKinds := [.data, .data, .data], laidTests := true, laidLooks := .later }
def ImportsOthersUptoCardSaid : Prop := Claim7.holds Tryd.pinned (.plain (OpenSpec.upto importsOthersSpec)) importsOthersUptoCard

/-- THE SECOND FORM's CARD OF 'incunablelaw16.ImportsKnown'. -/
def importsKnownUptoCard : Claim7 := { stood := { row := importsKnownUptoRow, standIns := [], harness := (true, "43857f87caf26214d3bc32e22870fb9aa8251fd9dde717a45da4b6dba6cd497e"), looks := false }, kinds := [], alts := [], laidByText := true, laidKinds := [.data, .data, .data], laidTests := true, laidLooks := .later }
def ImportsKnownUptoCardSaid : Prop := Claim7.holds Tryd.pinned (.plain (OpenSpec.upto importsKnownSpec)) importsKnownUptoCard
end Rows
end Go.Proofs.YtiflkdemlhpibaaDoor
