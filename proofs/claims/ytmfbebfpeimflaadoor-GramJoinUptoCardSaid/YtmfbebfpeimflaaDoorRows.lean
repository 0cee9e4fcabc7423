/-
  NARROWER THAN 'FOR EVERY INPUT', by the rows' own cells (each row's printed sentence says how): GramParses: laid · GramJoin: laid · GramPlace: laid · GramOther: laid.
  DERIVED. THE GIVEN ROWS OF THIS SEAT. 4 by the template 'for every input the law returns true; each argument reads behind the call as it read before'; 0 by the template 'total and deterministic' (their statements: YtmfbebfpeimflaaDoorTotals.lean).
  GIVEN WITH THE SEED: the statements are not yours to turn. If you find one false, say at which input.
  Laid BY PROGRAM, IN A SANDBOX (cutbox-rows.mjs): the forced cells as the released guide's own fill.sh prints them over the translation 725248537f82b605… (all of the seat's roots in one cut). By AI agents, Wed Nov 11 2026. No macro, syntax, notation, axiom, sorry.
-/
import Derived.Test.YtmfbebfpeimflaaDoorChecked
import GoSem.PinnedTables
import GoSem.Claim
import GoSem.ClaimJoined
import GoSem.ClaimMapViews
import Derived.JoinedTies
import Derived.KernelRfl
namespace Go.Proofs.YtmfbebfpeimflaaDoor
/- THE CELL 'sum', in the pinned program and in every row, IS THE sha256 OF THE DUMP (.gsa) THAT YtmfbebfpeimflaaDoorProg.lean LOADS. Nothing in Lean hashes anything: it is a label: what it is worth is what the hold of that sum in a sandbox is worth. -/
noncomputable def Tryd.pinned : Pinned := { name := "ytmfbebfpeimflaadoor", sum := "725248537f82b605a2f5a84cd5d68d3f0cd1662f2d5eb28f9ac2732825ed538a", checked := Tryd.checked }
namespace Rows
def none {H : Type} : Left H := { results := [], args := [] }

/- WHAT THE LISTED PACKAGE-LEVEL VARIABLES READ AS WHEN THE CALL BEGINS. Each datum BY PROGRAM (the guide's laid-datum.mjs) off the statement by which the dump's own 'gosem.cut.vars' lays the variable. In a bare row this is a premise. The card (YtmfbebfpeimflaaDoorCards.lean) ties it to the program's text. -/
def laid_unicode_utf8_acceptRanges {H : Type} : DataW H := .agg [.agg [.lit (.int .u8 128), .lit (.int .u8 191)], .agg [.lit (.int .u8 160), .lit (.int .u8 191)], .agg [.lit (.int .u8 128), .lit (.int .u8 159)], .agg [.lit (.int .u8 144), .lit (.int .u8 191)], .agg [.lit (.int .u8 128), .lit (.int .u8 143)], .agg [.lit (.int .u8 0), .lit (.int .u8 0)], .agg [.lit (.int .u8 0), .lit (.int .u8 0)], .agg [.lit (.int .u8 0), .lit (.int .u8 0)], .agg [.lit (.int .u8 0), .lit (.int .u8 0)], .agg [.lit (.int .u8 0), .lit (.int .u8 0)], .agg [.lit (.int .u8 0), .lit (.int .u8 0)], .agg [.lit (.int .u8 0), .lit (.int .u8 0)], .agg [.lit (.int .u8 0), .lit (.int .u8 0)], .agg [.lit (.int .u8 0), .lit (.int .u8 0)], .agg [.lit (.int .u8 0), .lit (.int .u8 0)], .agg [.lit (.int .u8 0), .lit (.int .u8 0)]]
def laid_incunable_words_language {H : Type} : DataW H := .agg [.lit (.string [105, 109, 112, 111, 114, 116]), .lit (.string [115, 116, 97, 114, 116]), .lit (.string [116, 101, 114, 109]), .lit (.string [115, 107, 105, 112]), .lit (.string [108, 101, 102, 116]), .lit (.string [114, 105, 103, 104, 116]), .lit (.string [110, 111, 110, 101]), .lit (.string [114, 117, 108, 101]), .lit (.string [112, 114, 101, 99])]
/-- One of Go's own tables, pinned by name: the form's constant. -/
def laid_unicode_utf8_first : DataW Unit := Go.Pinned.utf8First

/-- 'incunablelaw15.GramParses': WHATEVER THE INPUT: true; the input reads as it did. -/
def gramParsesSpec : ChangeSpec := { name := "gramParses", fn := fun _ => fun
  | [d] => { results := [.lit (.bool true)], args := [d] }
  | _ => none }
def gramParsesRow : OpenClaim := { program := "ytmfbebfpeimflaadoor", sum := "725248537f82b605a2f5a84cd5d68d3f0cd1662f2d5eb28f9ac2732825ed538a", func := "incunable/incunablelaw15.GramParses", spec := "gramParses", inPlace := ["internal/bytealg.IndexByte", "internal/bytealg.Index", "internal/bytealg.IndexByteString", "internal/bytealg.IndexString"], unfollowed := true, recurses := true, named := ["unicode/utf8.first", "unicode/utf8.acceptRanges", "internal/bytealg.MaxLen", "incunable/words.language"], apart := false, laid := [("unicode/utf8.acceptRanges", laid_unicode_utf8_acceptRanges), ("incunable/words.language", laid_incunable_words_language), ("unicode/utf8.first", laid_unicode_utf8_first)] }
def GramParsesSaid : Prop := gramParsesRow.holds Tryd.pinned (OpenSpec.ofChange gramParsesSpec)

/-- ITS FALSE NEIGHBOUR: 'it returns false'. Refute it at one input. -/
def gramParsesWrong : ChangeSpec := { name := "gramParses", fn := fun _ => fun
  | [d] => { results := [.lit (.bool false)], args := [d] }
  | _ => none }
def GramParsesWrongFalsely : Prop := gramParsesRow.holds Tryd.pinned (OpenSpec.ofChange gramParsesWrong)

/-- 'incunablelaw15.GramJoin': WHATEVER THE INPUT: true; the input reads as it did. -/
def gramJoinSpec : ChangeSpec := { name := "gramJoin", fn := fun _ => fun
  | [d1, d2] => { results := [.lit (.bool true)], args := [d1, d2] }
  | _ => none }
def gramJoinRow : OpenClaim := { program := "ytmfbebfpeimflaadoor", sum := "725248537f82b605a2f5a84cd5d68d3f0cd1662f2d5eb28f9ac2732825ed538a", func := "incunable/incunablelaw15.GramJoin", spec := "gramJoin", inPlace := ["internal/bytealg.IndexByte", "internal/bytealg.Index", "internal/bytealg.IndexByteString", "internal/bytealg.IndexString"], unfollowed := true, recurses := true, named := ["unicode/utf8.first", "unicode/utf8.acceptRanges", "internal/bytealg.MaxLen", "incunable/words.language"], apart := false, laid := [("unicode/utf8.acceptRanges", laid_unicode_utf8_acceptRanges), ("incunable/words.language", laid_incunable_words_language), ("unicode/utf8.first", laid_unicode_utf8_first)] }
def GramJoinSaid : Prop := gramJoinRow.holds Tryd.pinned (OpenSpec.ofChange gramJoinSpec)

/-- ITS FALSE NEIGHBOUR: 'it returns false'. Refute it at one input. -/
def gramJoinWrong : ChangeSpec := { name := "gramJoin", fn := fun _ => fun
  | [d1, d2] => { results := [.lit (.bool false)], args := [d1, d2] }
  | _ => none }
def GramJoinWrongFalsely : Prop := gramJoinRow.holds Tryd.pinned (OpenSpec.ofChange gramJoinWrong)

/-- 'incunablelaw15.GramPlace': WHATEVER THE INPUT: true; the input reads as it did. -/
def gramPlaceSpec : ChangeSpec := { name := "gramPlace", fn := fun _ => fun
  | [d] => { results := [.lit (.bool true)], args := [d] }
  | _ => none }
def gramPlaceRow : OpenClaim := { program := "ytmfbebfpeimflaadoor", sum := "725248537f82b605a2f5a84cd5d68d3f0cd1662f2d5eb28f9ac2732825ed538a", func := "incunable/incunablelaw15.GramPlace", spec := "gramPlace", inPlace := ["internal/bytealg.IndexByte", "internal/bytealg.Index", "internal/bytealg.IndexByteString", "internal/bytealg.IndexString"], unfollowed := true, recurses := true, named := ["unicode/utf8.first", "unicode/utf8.acceptRanges", "internal/bytealg.MaxLen", "incunable/words.language"], apart := false, laid := [("unicode/utf8.acceptRanges", laid_unicode_utf8_acceptRanges), ("incunable/words.language", laid_incunable_words_language), ("unicode/utf8.first", laid_unicode_utf8_first)] }
def GramPlaceSaid : Prop := gramPlaceRow.holds Tryd.pinned (OpenSpec.ofChange gramPlaceSpec)

/-- ITS FALSE NEIGHBOUR: 'it returns false'. Refute it at one input. -/
def gramPlaceWrong : ChangeSpec := { name := "gramPlace", fn := fun _ => fun
  | [d] => { results := [.lit (.bool false)], args := [d] }
  | _ => none }
def GramPlaceWrongFalsely : Prop := gramPlaceRow.holds Tryd.pinned (OpenSpec.ofChange gramPlaceWrong)

/-- 'incunablelaw15.GramOther': WHATEVER THE INPUT: true; the input reads as it did. -/
def gramOtherSpec : ChangeSpec := { name := "gramOther", fn := fun _ => fun
  | [d1, d2, d3] => { results := [.lit (.bool true)], args := [d1, d2, d3] }
  | _ => none }
def gramOtherRow : OpenClaim := { program := "ytmfbebfpeimflaadoor", sum := "725248537f82b605a2f5a84cd5d68d3f0cd1662f2d5eb28f9ac2732825ed538a", func := "incunable/incunablelaw15.GramOther", spec := "gramOther", inPlace := ["internal/bytealg.IndexByte", "internal/bytealg.Index", "internal/bytealg.IndexByteString", "internal/bytealg.IndexString"], unfollowed := true, recurses := true, named := ["unicode/utf8.first", "unicode/utf8.acceptRanges", "internal/bytealg.MaxLen", "incunable/words.language"], apart := false, laid := [("unicode/utf8.acceptRanges", laid_unicode_utf8_acceptRanges), ("incunable/words.language", laid_incunable_words_language), ("unicode/utf8.first", laid_unicode_utf8_first)] }
def GramOtherSaid : Prop := gramOtherRow.holds Tryd.pinned (OpenSpec.ofChange gramOtherSpec)

/-- ITS FALSE NEIGHBOUR: 'it returns false'. Refute it at one input. -/
def gramOtherWrong : ChangeSpec := { name := "gramOther", fn := fun _ => fun
  | [d1, d2, d3] => { results := [.lit (.bool false)], args := [d1, d2, d3] }
  | _ => none }
def GramOtherWrongFalsely : Prop := gramOtherRow.holds Tryd.pinned (OpenSpec.ofChange gramOtherWrong)

/- THE SECOND FORM. 'bulk': how many values and letters a reading holds, each counted each time it is reached (what is shared counts as often as it is met; a slice's spare places count too). A statement '..UptoSaid' is the law's where the arguments, and the package variables that the reading takes, are together of bulk at most 1048576: NARROWER than '..Said'. Prove '..Said' where nothing that the law and all that it calls make is longer than what came in: it says more and counts as full. Else prove '..UptoSaid'. A law counts once. -/
mutual
def uptoBulk {H : Type} : DataW H → Nat
  | .lit (.string bytes) => bytes.length + 1
  | .lit _ => 1
  | .nil => 1
  | .ptr d => uptoBulk d + 1
  | .slice elems spare => uptoBulkAll elems + uptoBulkAll spare + 1
  | .agg parts => uptoBulkAll parts + 1
  | .iface _ d => uptoBulk d + 1
  | .map entries => uptoBulkEntries entries + 1
  | .held _ => 1
def uptoBulkAll {H : Type} : List (DataW H) → Nat
  | [] => 0
  | d :: r => uptoBulk d + uptoBulkAll r
def uptoBulkEntries {H : Type} : List (Lit × DataW H) → Nat
  | [] => 0
  | x :: r => uptoBulkEntry x + uptoBulkEntries r
def uptoBulkEntry {H : Type} : Lit × DataW H → Nat
  | (.string bytes, d) => bytes.length + uptoBulk d + 1
  | (_, d) => uptoBulk d + 1
 end
def uptoSmall : (H : Type) → List (DataW H) → Bool := fun _ ds => decide (uptoBulkAll ds ≤ 1048576)
def OpenSpec.upto (s : _root_.Go.ChangeSpec) : _root_.Go.OpenSpec := { _root_.Go.OpenSpec.ofChange s with cond := some uptoSmall }

/-- 'incunablelaw15.GramParses', WHERE WHAT IT READS IS OF BULK AT MOST 1048576: true; the input reads as it did. -/
def gramParsesUptoRow : OpenClaim := { program := "ytmfbebfpeimflaadoor", sum := "725248537f82b605a2f5a84cd5d68d3f0cd1662f2d5eb28f9ac2732825ed538a", func := "incunable/incunablelaw15.GramParses", spec := "gramParses", inPlace := ["internal/bytealg.IndexByte", "internal/bytealg.Index", "internal/bytealg.IndexByteString", "internal/bytealg.IndexString"], unfollowed := true, recurses := true, named := ["unicode/utf8.first", "unicode/utf8.acceptRanges", "internal/bytealg.MaxLen", "incunable/words.language"], apart := false, laid := [("unicode/utf8.acceptRanges", laid_unicode_utf8_acceptRanges), ("incunable/words.language", laid_incunable_words_language), ("unicode/utf8.first", laid_unicode_utf8_first)], narrowed := true }
def GramParsesUptoSaid : Prop := gramParsesUptoRow.holds Tryd.pinned (OpenSpec.upto gramParsesSpec)

/-- 'incunablelaw15.GramJoin', WHERE WHAT IT READS IS OF BULK AT MOST 1048576: true; the input reads as it did. -/
def gramJoinUptoRow : OpenClaim := { program := "ytmfbebfpeimflaadoor", sum := "725248537f82b605a2f5a84cd5d68d3f0cd1662f2d5eb28f9ac2732825ed538a", func := "incunable/incunablelaw15.GramJoin", spec := "gramJoin", inPlace := ["internal/bytealg.IndexByte", "internal/bytealg.Index", "internal/bytealg.IndexByteString", "internal/bytealg.IndexString"], unfollowed := true, recurses := true, named := ["unicode/utf8.first", "unicode/utf8.acceptRanges", "internal/bytealg.MaxLen", "incunable/words.language"], apart := false, laid := [("unicode/utf8.acceptRanges", laid_unicode_utf8_acceptRanges), ("incunable/words.language", laid_incunable_words_language), ("unicode/utf8.first", laid_unicode_utf8_first)], narrowed := true }
def GramJoinUptoSaid : Prop := gramJoinUptoRow.holds Tryd.pinned (OpenSpec.upto gramJoinSpec)

/-- 'incunablelaw15.GramPlace', WHERE WHAT IT READS IS OF BULK AT MOST 1048576: true; the input reads as it did. -/
def gramPlaceUptoRow : OpenClaim := { program := "ytmfbebfpeimflaadoor", sum := "725248537f82b605a2f5a84cd5d68d3f0cd1662f2d5eb28f9ac2732825ed538a", func := "incunable/incunablelaw15.GramPlace", spec := "gramPlace", inPlace := ["internal/bytealg.IndexByte", "internal/bytealg.Index", "internal/bytealg.IndexByteString", "internal/bytealg.IndexString"], unfollowed := true, recurses := true, named := ["unicode/utf8.first", "unicode/utf8.acceptRanges", "internal/bytealg.MaxLen", "incunable/words.language"], apart := false, laid := [("unicode/utf8.acceptRanges", laid_unicode_utf8_acceptRanges), ("incunable/words.language", laid_incunable_words_language), ("unicode/utf8.first", laid_unicode_utf8_first)], narrowed := true }
def GramPlaceUptoSaid : Prop := gramPlaceUptoRow.holds Tryd.pinned (OpenSpec.upto gramPlaceSpec)

/-- 'incunablelaw15.GramOther', WHERE WHAT IT READS IS OF BULK AT MOST 1048576: true; the input reads as it did. -/
def gramOtherUptoRow : OpenClaim := { program := "ytmfbebfpeimflaadoor", sum := "725248537f82b605a2f5a84cd5d68d3f0cd1662f2d5eb28f9ac2732825ed538a", func := "incunable/incunablelaw15.GramOther", spec := "gramOther", inPlace := ["internal/bytealg.IndexByte", "internal/bytealg.Index", "internal/bytealg.IndexByteString", "internal/bytealg.IndexString"], unfollowed := true, recurses := true, named := ["unicode/utf8.first", "unicode/utf8.acceptRanges", "internal/bytealg.MaxLen", "incunable/words.language"], apart := false, laid := [("unicode/utf8.acceptRanges", laid_unicode_utf8_acceptRanges), ("incunable/words.language", laid_incunable_words_language), ("unicode/utf8.first", laid_unicode_utf8_first)], narrowed := true }
def GramOtherUptoSaid : Prop := gramOtherUptoRow.holds Tryd.pinned (OpenSpec.upto gramOtherSpec)

end Rows
end Go.Proofs.YtmfbebfpeimflaaDoor
