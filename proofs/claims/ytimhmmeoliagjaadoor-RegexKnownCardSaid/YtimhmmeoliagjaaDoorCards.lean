/-
  DERIVED. GIVEN WITH THE SEED: THE CARDS: each row of YtimhmmeoliagjaaDoorRows.lean that lists a variable, with what it lists TIED to the program's text (the seventh form; the later family's looks); each row that meets fmt, with fmt's text TOLD by the authors' own Lean function (tested against real Go, not proved from fmt's source: count such statements apart). THE CARD IS WHAT COUNTS. Prove the row's statement (the work); the ties are given (YtimhmmeoliagjaaDoorTie.lean); close each card by the builder's one call (the guide's Derived/Test/ToyasCard.lean, 'card_holds'). Laid BY PROGRAM, IN A SANDBOX (cutbox-door.mjs). By AI agents, Wed Nov 11 2026. No macro, syntax, notation, axiom, sorry.
-/
import Derived.Test.YtimhmmeoliagjaaDoorRows
import GoSem.ClaimSeven
namespace Go.Proofs.YtimhmmeoliagjaaDoor
namespace Rows

/-- THE TIED CARD OF 'incunablelaw09.RegexPrints'. -/
def regexPrintsCard : Claim7 := { stood := { row := regexPrintsRow, standIns := [], harness := (true, "fb48d27d42d80988f6df8d326872a4cb2d4dc33dfb57ce5879e728cda556269a"), looks := true }, kinds := [], alts := [], laidByText := true, laidKinds := [.data, .data], laidTests := true, laidLooks := .later }
def RegexPrintsCardSaid : Prop := Claim7.holds Tryd.pinned (.plain (OpenSpec.ofChange regexPrintsSpec)) regexPrintsCard

/-- THE TIED CARD OF 'incunablelaw09.RegexTakes'. -/
def regexTakesCard : Claim7 := { stood := { row := regexTakesRow, standIns := [], harness := (true, "fb48d27d42d80988f6df8d326872a4cb2d4dc33dfb57ce5879e728cda556269a"), looks := true }, kinds := [], alts := [], laidByText := true, laidKinds := [.data, .data], laidTests := true, laidLooks := .later }
def RegexTakesCardSaid : Prop := Claim7.holds Tryd.pinned (.plain (OpenSpec.ofChange regexTakesSpec)) regexTakesCard

/-- THE TIED CARD OF 'incunablelaw09.RegexBack'. -/
def regexBackCard : Claim7 := { stood := { row := regexBackRow, standIns := [], harness := (true, "fb48d27d42d80988f6df8d326872a4cb2d4dc33dfb57ce5879e728cda556269a"), looks := true }, kinds := [], alts := [], laidByText := true, laidKinds := [.data, .data], laidTests := true, laidLooks := .later }
def RegexBackCardSaid : Prop := Claim7.holds Tryd.pinned (.plain (OpenSpec.ofChange regexBackSpec)) regexBackCard

/-- THE TIED CARD OF 'incunablelaw09.RegexAgain'. -/
def regexAgainCard : Claim7 := { stood := { row := regexAgainRow, standIns := [], harness := (true, "fb48d27d42d80988f6df8d326872a4cb2d4dc33dfb57ce5879e728cda556269a"), looks := true }, kinds := [], alts := [], laidByText := true, laidKinds := [.data, .data], laidTests := true, laidLooks := .later }
def RegexAgainCardSaid : Prop := Claim7.holds Tryd.pinned (.plain (OpenSpec.ofChange regexAgainSpec)) regexAgainCard

/-- THE TIED CARD OF 'incunablelaw09.RegexParts'. -/
def regexPartsCard : Claim7 := { stood := { row := regexPartsRow, standIns := [], harness := (true, "fb48d27d42d80988f6df8d326872a4cb2d4dc33dfb57ce5879e728cda556269a"), looks := true }, kinds := [], alts := [], laidByText := true, laidKinds := [.data, .data], laidTests := true, laidLooks := .later }
def RegexPartsCardSaid : Prop := Claim7.holds Tryd.pinned (.plain (OpenSpec.ofChange regexPartsSpec)) regexPartsCard

/-- THE TIED CARD OF 'incunablelaw09.RegexWritten'. -/
def regexWrittenCard : Claim7 := { stood := { row := regexWrittenRow, standIns := [], harness := (true, "fb48d27d42d80988f6df8d326872a4cb2d4dc33dfb57ce5879e728cda556269a"), looks := true }, kinds := [], alts := [], laidByText := true, laidKinds := [.data, .data], laidTests := true, laidLooks := .later }
def RegexWrittenCardSaid : Prop := Claim7.holds Tryd.pinned (.plain (OpenSpec.ofChange regexWrittenSpec)) regexWrittenCard

/-- THE TIED CARD OF 'incunablelaw09.RegexOrder'. -/
def regexOrderCard : Claim7 := { stood := { row := regexOrderRow, standIns := [], harness := (true, "fb48d27d42d80988f6df8d326872a4cb2d4dc33dfb57ce5879e728cda556269a"), looks := true }, kinds := [], alts := [], laidByText := true, laidKinds := [.data, .data], laidTests := true, laidLooks := .later }
def RegexOrderCardSaid : Prop := Claim7.holds Tryd.pinned (.plain (OpenSpec.ofChange regexOrderSpec)) regexOrderCard

/-- THE TIED CARD OF 'incunablelaw09.RegexKnown'. -/
def regexKnownCard : Claim7 := { stood := { row := regexKnownRow, standIns := [], harness := (true, "fb48d27d42d80988f6df8d326872a4cb2d4dc33dfb57ce5879e728cda556269a"), looks := true }, kinds := [], alts := [], laidByText := true, laidKinds := [.data, .data], laidTests := true, laidLooks := .later }
def RegexKnownCardSaid : Prop := Claim7.holds Tryd.pinned (.plain (OpenSpec.ofChange regexKnownSpec)) regexKnownCard

/-- THE SECOND FORM's CARD OF 'incunablelaw09.RegexPrints'. -/
def regexPrintsUptoCard : Claim7 := { stood := { row := regexPrintsUptoRow, standIns := [], harness := (true, "fb48d27d42d80988f6df8d326872a4cb2d4dc33dfb57ce5879e728cda556269a"), looks := true }, kinds := [], alts := [], laidByText := true, laidKinds := [.data, .data], laidTests := true, laidLooks := .later }
def RegexPrintsUptoCardSaid : Prop := Claim7.holds Tryd.pinned (.plain (OpenSpec.upto regexPrintsSpec)) regexPrintsUptoCard

/-- THE SECOND FORM's CARD OF 'incunablelaw09.RegexTakes'. -/
def regexTakesUptoCard : Claim7 := { stood := { row := regexTakesUptoRow, standIns := [], harness := (true, "fb48d27d42d80988f6df8d326872a4cb2d4dc33dfb57ce5879e728cda556269a"), looks := true }, kinds := [], alts := [], laidByText := true, laidKinds := [.data, .data], laidTests := true, laidLooks := .later }
def RegexTakesUptoCardSaid : Prop := Claim7.holds Tryd.pinned (.plain (OpenSpec.upto regexTakesSpec)) regexTakesUptoCard

/-- THE SECOND FORM's CARD OF 'incunablelaw09.RegexBack'. -/
def regexBackUptoCard : Claim7 := { stood := { row := regexBackUptoRow, standIns := [], harness := (true, "fb48d27d42d80988f6df8d326872a4cb2d4dc33dfb57ce5879e728cda556269a"), looks := true }, kinds := [], alts := [], laidByText := true, laidKinds := [.data, .data], laidTests := true, laidLooks := .later }
def RegexBackUptoCardSaid : Prop := Claim7.holds Tryd.pinned (.plain (OpenSpec.upto regexBackSpec)) regexBackUptoCard

/-- THE SECOND FORM's CARD OF 'incunablelaw09.RegexAgain'. -/
def regexAgainUptoCard : Claim7 := { stood := { row := regexAgainUptoRow, standIns := [], harness := (true, "fb48d27d42d80988f6df8d326872a4cb2d4dc33dfb57ce5879e728cda556269a"), looks := true }, kinds := [], alts := [], laidByText := true, laidKinds := [.data, .data], laidTests := true, laidLooks := .later }
def RegexAgainUptoCardSaid : Prop := Claim7.holds Tryd.pinned (.plain (OpenSpec.upto regexAgainSpec)) regexAgainUptoCard

/-- THE SECOND FORM's CARD OF 'incunablelaw09.RegexParts'. -/
def regexPartsUptoCard : Claim7 := { stood := { row := regexPartsUptoRow, standIns := [], harness := (true, "fb48d27d42d80988f6df8d326872a4cb2d4dc33dfb57ce5879e728cda556269a"), looks := true }, kinds := [], alts := [], laidByText := true, laidKinds := [.data, .data], laidTests := true, laidLooks := .later }
def RegexPartsUptoCardSaid : Prop := Claim7.holds Tryd.pinned (.plain (OpenSpec.upto regexPartsSpec)) regexPartsUptoCard

/-- THE SECOND FORM's CARD OF 'incunablelaw09.RegexWritten'. -/
def regexWrittenUptoCard : Claim7 := { stood := { row := regexWrittenUptoRow, standIns := [], harness := (true, "fb48d27d42d80988f6df8d326872a4cb2d4dc33dfb57ce5879e728cda556269a"), looks := true }, kinds := [], alts := [], laidByText := true, laidKinds := [.data, .data], laidTests := true, laidLooks := .later }
def RegexWrittenUptoCardSaid : Prop := Claim7.holds Tryd.pinned (.plain (OpenSpec.upto regexWrittenSpec)) regexWrittenUptoCard

/-- THE SECOND FORM's CARD OF 'incunablelaw09.RegexOrder'. -/
def regexOrderUptoCard : Claim7 := { stood := { row := regexOrderUptoRow, standIns := [], harness := (true, "fb48d27d42d80988f6df8d326872a4cb2d4dc33dfb57ce5879e728cda556269a"), looks := true }, kinds := [], alts := [], laidByText := true, laidKinds := [.data, .data], laidTests := true, laidLooks := .later }
def RegexOrderUptoCardSaid : Prop := Claim7.holds Tryd.pinned (.plain (OpenSpec.upto regexOrderSpec)) regexOrderUptoCard

/-- THE SECOND FORM's CARD OF 'incunablelaw09.RegexKnown'. -/
def regexKnownUptoCard : Claim7 := { stood := { row := regexKnownUptoRow, standIns := [], harness := (true, "fb48d27d42d80988f6df8d326872a4cb2d4dc33dfb57ce5879e728cda556269a"), looks := true }, kinds := [], alts := [], laidByText := true, laidKinds := [.data, .data], laidTests := true, laidLooks := .later }
def RegexKnownUptoCardSaid : Prop := Claim7.holds Tryd.pinned (.plain (OpenSpec.upto regexKnownSpec)) regexKnownUptoCard
end Rows
end Go.Proofs.YtimhmmeoliagjaaDoor
