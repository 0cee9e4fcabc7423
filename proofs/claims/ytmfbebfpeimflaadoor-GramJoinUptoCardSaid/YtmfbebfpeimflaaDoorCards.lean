/-
  DERIVED. GIVEN WITH THE SEED: THE CARDS: each row of YtmfbebfpeimflaaDoorRows.lean that lists a variable, with what it lists TIED to the program's text (the seventh form; the later family's looks); each row that meets fmt, with fmt's text TOLD by the authors' own Lean function (tested against real Go, not proved from fmt's source: count such statements apart). THE CARD IS WHAT COUNTS. Prove the row's statement (the work); the ties are given (YtmfbebfpeimflaaDoorTie.lean); close each card by the builder's one call (the guide's Derived/Test/ToyasCard.lean, 'card_holds'). Laid BY PROGRAM, IN A SANDBOX (cutbox-door.mjs). By AI agents, Wed Nov 11 2026. No macro, syntax, notation, axiom, sorry.
-/
import Derived.Test.YtmfbebfpeimflaaDoorRows
import GoSem.ClaimSeven
namespace Go.Proofs.YtmfbebfpeimflaaDoor
namespace Rows

/-- THE TIED CARD OF 'incunablelaw15.GramParses'. -/
def gramParsesCard : Claim7 := { stood := { row := gramParsesRow, standIns := [], harness := (true, "a40c6ec139359028063957a48216a8da10501f0198d4e9914b387cf70b9192d9"), looks := false }, kinds := [], alts := [], laidByText := true, laidKinds := [.data, .widerDeep, .pinned], laidTests := true, laidLooks := .later }
def GramParsesCardSaid : Prop := Claim7.holds Tryd.pinned (.plain (OpenSpec.ofChange gramParsesSpec)) gramParsesCard

/-- THE TIED CARD OF 'incunablelaw15.GramJoin'. -/
def gramJoinCard : Claim7 := { stood := { row := gramJoinRow, standIns := [], harness := (true, "a40c6ec139359028063957a48216a8da10501f0198d4e9914b387cf70b9192d9"), looks := false }, kinds := [], alts := [], laidByText := true, laidKinds := [.data, .widerDeep, .pinned], laidTests := true, laidLooks := .later }
def GramJoinCardSaid : Prop := Claim7.holds Tryd.pinned (.plain (OpenSpec.ofChange gramJoinSpec)) gramJoinCard

/-- THE TIED CARD OF 'incunablelaw15.GramPlace'. -/
def gramPlaceCard : Claim7 := { stood := { row := gramPlaceRow, standIns := [], harness := (true, "a40c6ec139359028063957a48216a8da10501f0198d4e9914b387cf70b9192d9"), looks := false }, kinds := [], alts := [], laidByText := true, laidKinds := [.data, .widerDeep, .pinned], laidTests := true, laidLooks := .later }
def GramPlaceCardSaid : Prop := Claim7.holds Tryd.pinned (.plain (OpenSpec.ofChange gramPlaceSpec)) gramPlaceCard

/-- THE TIED CARD OF 'incunablelaw15.GramOther'. -/
def gramOtherCard : Claim7 := { stood := { row := gramOtherRow, standIns := [], harness := (true, "a40c6ec139359028063957a48216a8da10501f0198d4e9914b387cf70b9192d9"), looks := false }, kinds := [], alts := [], laidByText := true, laidKinds := [.data, .widerDeep, .pinned], laidTests := true, laidLooks := .later }
def GramOtherCardSaid : Prop := Claim7.holds Tryd.pinned (.plain (OpenSpec.ofChange gramOtherSpec)) gramOtherCard

/-- THE SECOND FORM's CARD OF 'incunablelaw15.GramParses'. -/
def gramParsesUptoCard : Claim7 := { stood := { row := gramParsesUptoRow, standIns := [], harness := (true, "a40c6ec139359028063957a48216a8da10501f0198d4e9914b387cf70b9192d9"), looks := false }, kinds := [], alts := [], laidByText := true, laidKinds := [.data, .widerDeep, .pinned], laidTests := true, laidLooks := .later }
def GramParsesUptoCardSaid : Prop := Claim7.holds Tryd.pinned (.plain (OpenSpec.upto gramParsesSpec)) gramParsesUptoCard

/-- THE SECOND FORM's CARD OF 'incunablelaw15.GramJoin'. -/
def gramJoinUptoCard : Claim7 := { stood := { row := gramJoinUptoRow, standIns := [], harness := (true, "a40c6ec139359028063957a48216a8da10501f0198d4e9914b387cf70b9192d9"), looks := false }, kinds := [], alts := [], laidByText := true, laidKinds := [.data, .widerDeep, .pinned], laidTests := true, laidLooks := .later }
def GramJoinUptoCardSaid : Prop := Claim7.holds Tryd.pinned (.plain (OpenSpec.upto gramJoinSpec)) gramJoinUptoCard

/-- THE SECOND FORM's CARD OF 'incunablelaw15.GramPlace'. -/
def gramPlaceUptoCard : Claim7 := { stood := { row := gramPlaceUptoRow, standIns := [], harness := (true, "a40c6ec139359028063957a48216a8da10501f0198d4e9914b387cf70b9192d9"), looks := false }, kinds := [], alts := [], laidByText := true, laidKinds := [.data, .widerDeep, .pinned], laidTests := true, laidLooks := .later }
def GramPlaceUptoCardSaid : Prop := Claim7.holds Tryd.pinned (.plain (OpenSpec.upto gramPlaceSpec)) gramPlaceUptoCard

/-- THE SECOND FORM's CARD OF 'incunablelaw15.GramOther'. -/
def gramOtherUptoCard : Claim7 := { stood := { row := gramOtherUptoRow, standIns := [], harness := (true, "a40c6ec139359028063957a48216a8da10501f0198d4e9914b387cf70b9192d9"), looks := false }, kinds := [], alts := [], laidByText := true, laidKinds := [.data, .widerDeep, .pinned], laidTests := true, laidLooks := .later }
def GramOtherUptoCardSaid : Prop := Claim7.holds Tryd.pinned (.plain (OpenSpec.upto gramOtherSpec)) gramOtherUptoCard
end Rows
end Go.Proofs.YtmfbebfpeimflaaDoor
