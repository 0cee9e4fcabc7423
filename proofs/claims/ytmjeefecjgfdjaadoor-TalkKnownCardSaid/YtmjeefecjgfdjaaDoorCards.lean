/-
  DERIVED. GIVEN WITH THE SEED: THE CARDS: each row of YtmjeefecjgfdjaaDoorRows.lean that lists a variable, with what it lists TIED to the program's text (the seventh form; the later family's looks); each row that meets fmt, with fmt's text TOLD by the authors' own Lean function (tested against real Go, not proved from fmt's source: count such statements apart). THE CARD IS WHAT COUNTS. Prove the row's statement (the work); the ties are given (YtmjeefecjgfdjaaDoorTie.lean); close each card by the builder's one call (the guide's Derived/Test/ToyasCard.lean, 'card_holds'). Laid BY PROGRAM, IN A SANDBOX (cutbox-door.mjs). By AI agents, Wed Nov 11 2026. No macro, syntax, notation, axiom, sorry.
-/
import Derived.Test.YtmjeefecjgfdjaaDoorRows
import GoSem.ClaimSeven
namespace Go.Proofs.YtmjeefecjgfdjaaDoor
namespace Rows

/-- THE TIED CARD OF 'incunablelaw29.TalkAsks'. -/
def talkAsksCard : Claim7 := { stood := { row := talkAsksRow, standIns := [], harness := (true, "a753bff44a55240085b4e2f17b8dfab6b9796b4a9238f2e22ccd505bbb6b0931"), looks := false }, kinds := [], alts := [], laidByText := true, laidKinds := [.data, .pinned], laidTests := true, laidLooks := .later }
def TalkAsksCardSaid : Prop := Claim7.holds Tryd.pinned (.plain (OpenSpec.ofChange talkAsksSpec)) talkAsksCard

/-- THE TIED CARD OF 'incunablelaw29.TalkAnswers'. -/
def talkAnswersCard : Claim7 := { stood := { row := talkAnswersRow, standIns := [], harness := (true, "a753bff44a55240085b4e2f17b8dfab6b9796b4a9238f2e22ccd505bbb6b0931"), looks := false }, kinds := [], alts := [], laidByText := true, laidKinds := [.data, .pinned], laidTests := true, laidLooks := .later }
def TalkAnswersCardSaid : Prop := Claim7.holds Tryd.pinned (.plain (OpenSpec.ofChange talkAnswersSpec)) talkAnswersCard

/-- THE TIED CARD OF 'incunablelaw29.TalkReads'. -/
def talkReadsCard : Claim7 := { stood := { row := talkReadsRow, standIns := [], harness := (true, "a753bff44a55240085b4e2f17b8dfab6b9796b4a9238f2e22ccd505bbb6b0931"), looks := false }, kinds := [], alts := [], laidByText := true, laidKinds := [.data, .pinned], laidTests := true, laidLooks := .later }
def TalkReadsCardSaid : Prop := Claim7.holds Tryd.pinned (.plain (OpenSpec.ofChange talkReadsSpec)) talkReadsCard

/-- THE TIED CARD OF 'incunablelaw29.TalkBack'. -/
def talkBackCard : Claim7 := { stood := { row := talkBackRow, standIns := [], harness := (true, "a753bff44a55240085b4e2f17b8dfab6b9796b4a9238f2e22ccd505bbb6b0931"), looks := false }, kinds := [], alts := [], laidByText := true, laidKinds := [.data, .pinned], laidTests := true, laidLooks := .later }
def TalkBackCardSaid : Prop := Claim7.holds Tryd.pinned (.plain (OpenSpec.ofChange talkBackSpec)) talkBackCard

/-- THE TIED CARD OF 'incunablelaw29.TalkJust'. -/
def talkJustCard : Claim7 := { stood := { row := talkJustRow, standIns := [], harness := (true, "a753bff44a55240085b4e2f17b8dfab6b9796b4a9238f2e22ccd505bbb6b0931"), looks := false }, kinds := [], alts := [], laidByText := true, laidKinds := [.data, .pinned], laidTests := true, laidLooks := .later }
def TalkJustCardSaid : Prop := Claim7.holds Tryd.pinned (.plain (OpenSpec.ofChange talkJustSpec)) talkJustCard

/-- THE TIED CARD OF 'incunablelaw29.TalkCut'. -/
def talkCutCard : Claim7 := { stood := { row := talkCutRow, standIns := [], harness := (true, "a753bff44a55240085b4e2f17b8dfab6b9796b4a9238f2e22ccd505bbb6b0931"), looks := false }, kinds := [], alts := [], laidByText := true, laidKinds := [.data, .pinned], laidTests := true, laidLooks := .later }
def TalkCutCardSaid : Prop := Claim7.holds Tryd.pinned (.plain (OpenSpec.ofChange talkCutSpec)) talkCutCard

/-- THE TIED CARD OF 'incunablelaw29.TalkKnown'. -/
def talkKnownCard : Claim7 := { stood := { row := talkKnownRow, standIns := [], harness := (true, "a753bff44a55240085b4e2f17b8dfab6b9796b4a9238f2e22ccd505bbb6b0931"), looks := false }, kinds := [], alts := [], laidByText := true, laidKinds := [.data, .pinned], laidTests := true, laidLooks := .later }
def TalkKnownCardSaid : Prop := Claim7.holds Tryd.pinned (.plain (OpenSpec.ofChange talkKnownSpec)) talkKnownCard

/-- THE SECOND FORM's CARD OF 'incunablelaw29.TalkAsks'. -/
def talkAsksUptoCard : Claim7 := { stood := { row := talkAsksUptoRow, standIns := [], harness := (true, "a753bff44a55240085b4e2f17b8dfab6b9796b4a9238f2e22ccd505bbb6b0931"), looks := false }, kinds := [], alts := [], laidByText := true, laidKinds := [.data, .pinned], laidTests := true, laidLooks := .later }
def TalkAsksUptoCardSaid : Prop := Claim7.holds Tryd.pinned (.plain (OpenSpec.upto talkAsksSpec)) talkAsksUptoCard

/-- THE SECOND FORM's CARD OF 'incunablelaw29.TalkAnswers'. -/
def talkAnswersUptoCard : Claim7 := { stood := { row := talkAnswersUptoRow, standIns := [], harness := (true, "a753bff44a55240085b4e2f17b8dfab6b9796b4a9238f2e22ccd505bbb6b0931"), looks := false }, kinds := [], alts := [], laidByText := true, laidKinds := [.data, .pinned], laidTests := true, laidLooks := .later }
def TalkAnswersUptoCardSaid : Prop := Claim7.holds Tryd.pinned (.plain (OpenSpec.upto talkAnswersSpec)) talkAnswersUptoCard

/-- THE SECOND FORM's CARD OF 'incunablelaw29.TalkReads'. -/
def talkReadsUptoCard : Claim7 := { stood := { row := talkReadsUptoRow, standIns := [], harness := (true, "a753bff44a55240085b4e2f17b8dfab6b9796b4a9238f2e22ccd505bbb6b0931"), looks := false }, kinds := [], alts := [], laidByText := true, laidKinds := [.data, .pinned], laidTests := true, laidLooks := .later }
def TalkReadsUptoCardSaid : Prop := Claim7.holds Tryd.pinned (.plain (OpenSpec.upto talkReadsSpec)) talkReadsUptoCard

/-- THE SECOND FORM's CARD OF 'incunablelaw29.TalkBack'. -/
def talkBackUptoCard : Claim7 := { stood := { row := talkBackUptoRow, standIns := [], harness := (true, "a753bff44a55240085b4e2f17b8dfab6b9796b4a9238f2e22ccd505bbb6b0931"), looks := false }, kinds := [], alts := [], laidByText := true, laidKinds := [.data, .pinned], laidTests := true, laidLooks := .later }
def TalkBackUptoCardSaid : Prop := Claim7.holds Tryd.pinned (.plain (OpenSpec.upto talkBackSpec)) talkBackUptoCard

/-- THE SECOND FORM's CARD OF 'incunablelaw29.TalkJust'. -/
def talkJustUptoCard : Claim7 := { stood := { row := talkJustUptoRow, standIns := [], harness := (true, "a753bff44a55240085b4e2f17b8dfab6b9796b4a9238f2e22ccd505bbb6b0931"), looks := false }, kinds := [], alts := [], laidByText := true, laidKinds := [.data, .pinned], laidTests := true, laidLooks := .later }
def TalkJustUptoCardSaid : Prop := Claim7.holds Tryd.pinned (.plain (OpenSpec.upto talkJustSpec)) talkJustUptoCard

/-- THE SECOND FORM's CARD OF 'incunablelaw29.TalkCut'. -/
def talkCutUptoCard : Claim7 := { stood := { row := talkCutUptoRow, standIns := [], harness := (true, "a753bff44a55240085b4e2f17b8dfab6b9796b4a9238f2e22ccd505bbb6b0931"), looks := false }, kinds := [], alts := [], laidByText := true, laidKinds := [.data, .pinned], laidTests := true, laidLooks := .later }
def TalkCutUptoCardSaid : Prop := Claim7.holds Tryd.pinned (.plain (OpenSpec.upto talkCutSpec)) talkCutUptoCard

/-- THE SECOND FORM's CARD OF 'incunablelaw29.TalkKnown'. -/
def talkKnownUptoCard : Claim7 := { stood := { row := talkKnownUptoRow, standIns := [], harness := (true, "a753bff44a55240085b4e2f17b8dfab6b9796b4a9238f2e22ccd505bbb6b0931"), looks := false }, kinds := [], alts := [], laidByText := true, laidKinds := [.data, .pinned], laidTests := true, laidLooks := .later }
def TalkKnownUptoCardSaid : Prop := Claim7.holds Tryd.pinned (.plain (OpenSpec.upto talkKnownSpec)) talkKnownUptoCard
end Rows
end Go.Proofs.YtmjeefecjgfdjaaDoor
