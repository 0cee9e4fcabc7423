/-
  NARROWER THAN 'FOR EVERY INPUT', by the rows' own cells (each row's printed sentence says how): TalkAsks: laid · TalkAnswers: laid · TalkReads: laid · TalkBack: laid · TalkJust: laid · TalkCut: laid · TalkKnown: laid.
  DERIVED. THE GIVEN ROWS OF THIS SEAT. 7 by the template 'for every input the law returns true; each argument reads behind the call as it read before'; 0 by the template 'total and deterministic' (their statements: YtmjeefecjgfdjaaDoorTotals.lean).
  GIVEN WITH THE SEED: the statements are not yours to turn. If you find one false, say at which input.
  Laid BY PROGRAM, IN A SANDBOX (cutbox-rows.mjs): the forced cells as the released guide's own fill.sh prints them over the translation 572ee9467ca9f00f… (all of the seat's roots in one cut). By AI agents, Wed Nov 11 2026. No macro, syntax, notation, axiom, sorry.
-/
import Derived.Test.YtmjeefecjgfdjaaDoorChecked
import GoSem.PinnedTables
import GoSem.Claim
import GoSem.ClaimJoined
import GoSem.ClaimMapViews
import Derived.JoinedTies
import Derived.KernelRfl
namespace Go.Proofs.YtmjeefecjgfdjaaDoor
/- THE CELL 'sum', in the pinned program and in every row, IS THE sha256 OF THE DUMP (.gsa) THAT YtmjeefecjgfdjaaDoorProg.lean LOADS. Nothing in Lean hashes anything: it is a label: what it is worth is what the hold of that sum in a sandbox is worth. -/
noncomputable def Tryd.pinned : Pinned := { name := "ytmjeefecjgfdjaadoor", sum := "572ee9467ca9f00f03259862a967f9a2fa598e3f944025ba70de52065152c8bd", checked := Tryd.checked }
namespace Rows
def none {H : Type} : Left H := { results := [], args := [] }

/- WHAT THE LISTED PACKAGE-LEVEL VARIABLES READ AS WHEN THE CALL BEGINS. Each datum BY PROGRAM (the guide's laid-datum.mjs) off the statement by which the dump's own 'gosem.cut.vars' lays the variable. In a bare row this is a premise. The card (YtmjeefecjgfdjaaDoorCards.lean) ties it to the program's text. -/
def laid_unicode_utf8_acceptRanges {H : Type} : DataW H := .agg [.agg [.lit (.int .u8 128), .lit (.int .u8 191)], .agg [.lit (.int .u8 160), .lit (.int .u8 191)], .agg [.lit (.int .u8 128), .lit (.int .u8 159)], .agg [.lit (.int .u8 144), .lit (.int .u8 191)], .agg [.lit (.int .u8 128), .lit (.int .u8 143)], .agg [.lit (.int .u8 0), .lit (.int .u8 0)], .agg [.lit (.int .u8 0), .lit (.int .u8 0)], .agg [.lit (.int .u8 0), .lit (.int .u8 0)], .agg [.lit (.int .u8 0), .lit (.int .u8 0)], .agg [.lit (.int .u8 0), .lit (.int .u8 0)], .agg [.lit (.int .u8 0), .lit (.int .u8 0)], .agg [.lit (.int .u8 0), .lit (.int .u8 0)], .agg [.lit (.int .u8 0), .lit (.int .u8 0)], .agg [.lit (.int .u8 0), .lit (.int .u8 0)], .agg [.lit (.int .u8 0), .lit (.int .u8 0)], .agg [.lit (.int .u8 0), .lit (.int .u8 0)]]
/-- One of Go's own tables, pinned by name: the form's constant. -/
def laid_unicode_utf8_first : DataW Unit := Go.Pinned.utf8First

/-- 'incunablelaw29.TalkAsks': WHATEVER THE INPUT: true; the input reads as it did. -/
def talkAsksSpec : ChangeSpec := { name := "talkAsks", fn := fun _ => fun
  | [d] => { results := [.lit (.bool true)], args := [d] }
  | _ => none }
def talkAsksRow : OpenClaim := { program := "ytmjeefecjgfdjaadoor", sum := "572ee9467ca9f00f03259862a967f9a2fa598e3f944025ba70de52065152c8bd", func := "incunable/incunablelaw29.TalkAsks", spec := "talkAsks", inPlace := ["internal/bytealg.IndexByteString", "internal/bytealg.IndexString"], unfollowed := true, recurses := true, named := ["unicode/utf8.first", "unicode/utf8.acceptRanges", "internal/bytealg.MaxLen"], apart := false, laid := [("unicode/utf8.acceptRanges", laid_unicode_utf8_acceptRanges), ("unicode/utf8.first", laid_unicode_utf8_first)] }
def TalkAsksSaid : Prop := talkAsksRow.holds Tryd.pinned (OpenSpec.ofChange talkAsksSpec)

/-- ITS FALSE NEIGHBOUR: 'it returns false'. Refute it at one input. -/
def talkAsksWrong : ChangeSpec := { name := "talkAsks", fn := fun _ => fun
  | [d] => { results := [.lit (.bool false)], args := [d] }
  | _ => none }
def TalkAsksWrongFalsely : Prop := talkAsksRow.holds Tryd.pinned (OpenSpec.ofChange talkAsksWrong)

/-- 'incunablelaw29.TalkAnswers': WHATEVER THE INPUT: true; the input reads as it did. -/
def talkAnswersSpec : ChangeSpec := { name := "talkAnswers", fn := fun _ => fun
  | [d] => { results := [.lit (.bool true)], args := [d] }
  | _ => none }
def talkAnswersRow : OpenClaim := { program := "ytmjeefecjgfdjaadoor", sum := "572ee9467ca9f00f03259862a967f9a2fa598e3f944025ba70de52065152c8bd", func := "incunable/incunablelaw29.TalkAnswers", spec := "talkAnswers", inPlace := ["internal/bytealg.IndexByteString", "internal/bytealg.IndexString"], unfollowed := true, recurses := true, named := ["unicode/utf8.first", "unicode/utf8.acceptRanges", "internal/bytealg.MaxLen"], apart := false, laid := [("unicode/utf8.acceptRanges", laid_unicode_utf8_acceptRanges), ("unicode/utf8.first", laid_unicode_utf8_first)] }
def TalkAnswersSaid : Prop := talkAnswersRow.holds Tryd.pinned (OpenSpec.ofChange talkAnswersSpec)

/-- ITS FALSE NEIGHBOUR: 'it returns false'. Refute it at one input. -/
def talkAnswersWrong : ChangeSpec := { name := "talkAnswers", fn := fun _ => fun
  | [d] => { results := [.lit (.bool false)], args := [d] }
  | _ => none }
def TalkAnswersWrongFalsely : Prop := talkAnswersRow.holds Tryd.pinned (OpenSpec.ofChange talkAnswersWrong)

/-- 'incunablelaw29.TalkReads': WHATEVER THE INPUT: true; the input reads as it did. -/
def talkReadsSpec : ChangeSpec := { name := "talkReads", fn := fun _ => fun
  | [d] => { results := [.lit (.bool true)], args := [d] }
  | _ => none }
def talkReadsRow : OpenClaim := { program := "ytmjeefecjgfdjaadoor", sum := "572ee9467ca9f00f03259862a967f9a2fa598e3f944025ba70de52065152c8bd", func := "incunable/incunablelaw29.TalkReads", spec := "talkReads", inPlace := ["internal/bytealg.IndexByteString", "internal/bytealg.IndexString"], unfollowed := true, recurses := true, named := ["unicode/utf8.first", "unicode/utf8.acceptRanges", "internal/bytealg.MaxLen"], apart := false, laid := [("unicode/utf8.acceptRanges", laid_unicode_utf8_acceptRanges), ("unicode/utf8.first", laid_unicode_utf8_first)] }
def TalkReadsSaid : Prop := talkReadsRow.holds Tryd.pinned (OpenSpec.ofChange talkReadsSpec)

/-- ITS FALSE NEIGHBOUR: 'it returns false'. Refute it at one input. -/
def talkReadsWrong : ChangeSpec := { name := "talkReads", fn := fun _ => fun
  | [d] => { results := [.lit (.bool false)], args := [d] }
  | _ => none }
def TalkReadsWrongFalsely : Prop := talkReadsRow.holds Tryd.pinned (OpenSpec.ofChange talkReadsWrong)

/-- 'incunablelaw29.TalkBack': WHATEVER THE INPUT: true; the input reads as it did. -/
def talkBackSpec : ChangeSpec := { name := "talkBack", fn := fun _ => fun
  | [d1, d2] => { results := [.lit (.bool true)], args := [d1, d2] }
  | _ => none }
def talkBackRow : OpenClaim := { program := "ytmjeefecjgfdjaadoor", sum := "572ee9467ca9f00f03259862a967f9a2fa598e3f944025ba70de52065152c8bd", func := "incunable/incunablelaw29.TalkBack", spec := "talkBack", inPlace := ["internal/bytealg.IndexByteString", "internal/bytealg.IndexString"], unfollowed := true, recurses := true, named := ["unicode/utf8.first", "unicode/utf8.acceptRanges", "internal/bytealg.MaxLen"], apart := false, laid := [("unicode/utf8.acceptRanges", laid_unicode_utf8_acceptRanges), ("unicode/utf8.first", laid_unicode_utf8_first)] }
def TalkBackSaid : Prop := talkBackRow.holds Tryd.pinned (OpenSpec.ofChange talkBackSpec)

/-- ITS FALSE NEIGHBOUR: 'it returns false'. Refute it at one input. -/
def talkBackWrong : ChangeSpec := { name := "talkBack", fn := fun _ => fun
  | [d1, d2] => { results := [.lit (.bool false)], args := [d1, d2] }
  | _ => none }
def TalkBackWrongFalsely : Prop := talkBackRow.holds Tryd.pinned (OpenSpec.ofChange talkBackWrong)

/-- 'incunablelaw29.TalkJust': WHATEVER THE INPUT: true; the input reads as it did. -/
def talkJustSpec : ChangeSpec := { name := "talkJust", fn := fun _ => fun
  | [d] => { results := [.lit (.bool true)], args := [d] }
  | _ => none }
def talkJustRow : OpenClaim := { program := "ytmjeefecjgfdjaadoor", sum := "572ee9467ca9f00f03259862a967f9a2fa598e3f944025ba70de52065152c8bd", func := "incunable/incunablelaw29.TalkJust", spec := "talkJust", inPlace := ["internal/bytealg.IndexByteString", "internal/bytealg.IndexString"], unfollowed := true, recurses := true, named := ["unicode/utf8.first", "unicode/utf8.acceptRanges", "internal/bytealg.MaxLen"], apart := false, laid := [("unicode/utf8.acceptRanges", laid_unicode_utf8_acceptRanges), ("unicode/utf8.first", laid_unicode_utf8_first)] }
def TalkJustSaid : Prop := talkJustRow.holds Tryd.pinned (OpenSpec.ofChange talkJustSpec)

/-- ITS FALSE NEIGHBOUR: 'it returns false'. Refute it at one input. -/
def talkJustWrong : ChangeSpec := { name := "talkJust", fn := fun _ => fun
  | [d] => { results := [.lit (.bool false)], args := [d] }
  | _ => none }
def TalkJustWrongFalsely : Prop := talkJustRow.holds Tryd.pinned (OpenSpec.ofChange talkJustWrong)

/-- 'incunablelaw29.TalkCut': WHATEVER THE INPUT: true; the input reads as it did. -/
def talkCutSpec : ChangeSpec := { name := "talkCut", fn := fun _ => fun
  | [d1, d2, d3] => { results := [.lit (.bool true)], args := [d1, d2, d3] }
  | _ => none }
def talkCutRow : OpenClaim := { program := "ytmjeefecjgfdjaadoor", sum := "572ee9467ca9f00f03259862a967f9a2fa598e3f944025ba70de52065152c8bd", func := "incunable/incunablelaw29.TalkCut", spec := "talkCut", inPlace := ["internal/bytealg.IndexByteString", "internal/bytealg.IndexString"], unfollowed := true, recurses := true, named := ["unicode/utf8.first", "unicode/utf8.acceptRanges", "internal/bytealg.MaxLen"], apart := false, laid := [("unicode/utf8.acceptRanges", laid_unicode_utf8_acceptRanges), ("unicode/utf8.first", laid_unicode_utf8_first)] }
def TalkCutSaid : Prop := talkCutRow.holds Tryd.pinned (OpenSpec.ofChange talkCutSpec)

/-- ITS FALSE NEIGHBOUR: 'it returns false'. Refute it at one input. -/
def talkCutWrong : ChangeSpec := { name := "talkCut", fn := fun _ => fun
  | [d1, d2, d3] => { results := [.lit (.bool false)], args := [d1, d2, d3] }
  | _ => none }
def TalkCutWrongFalsely : Prop := talkCutRow.holds Tryd.pinned (OpenSpec.ofChange talkCutWrong)

/-- 'incunablelaw29.TalkKnown': WHATEVER THE INPUT: true; the input reads as it did. -/
def talkKnownSpec : ChangeSpec := { name := "talkKnown", fn := fun _ => fun
  | [] => { results := [.lit (.bool true)], args := [] }
  | _ => none }
def talkKnownRow : OpenClaim := { program := "ytmjeefecjgfdjaadoor", sum := "572ee9467ca9f00f03259862a967f9a2fa598e3f944025ba70de52065152c8bd", func := "incunable/incunablelaw29.TalkKnown", spec := "talkKnown", inPlace := ["internal/abi.NoEscape", "internal/bytealg.MakeNoZero", "internal/bytealg.IndexByteString", "internal/bytealg.IndexString"], unfollowed := true, recurses := true, named := ["unicode/utf8.first", "unicode/utf8.acceptRanges", "internal/bytealg.MaxLen"], apart := false, laid := [("unicode/utf8.acceptRanges", laid_unicode_utf8_acceptRanges), ("unicode/utf8.first", laid_unicode_utf8_first)] }
def TalkKnownSaid : Prop := talkKnownRow.holds Tryd.pinned (OpenSpec.ofChange talkKnownSpec)

/-- ITS FALSE NEIGHBOUR: 'it returns false'. Refute it at one input. -/
def talkKnownWrong : ChangeSpec := { name := "talkKnown", fn := fun _ => fun
  | [] => { results := [.lit (.bool false)], args := [] }
  | _ => none }
def TalkKnownWrongFalsely : Prop := talkKnownRow.holds Tryd.pinned (OpenSpec.ofChange talkKnownWrong)

/- THE SECOND FORM. 'bulk': how many values and letters a reading holds, each counted each time it is reached (what is shared counts as often as it is met; a slice's spare places count too). A statement '..UptoSaid' is the law's where the arguments, and the package variables that the reading takes, are together of bulk at most 1048576: NARROWER than '..Said'. Prove '..Said' where nothing that the law and all that it calls make is longer than what came in: it says more and counts as full. Else prove '..UptoSaid'. A law counts once. -/
mutual
def uptoBulk {H : Type} : DataW H → Nat
  | .lit (.string bytes) => bytes.length + 1
  | .lit _ => 1
  | .nil => 1
  | .ptr d => uptoBulk d + 1
  | .slice elems spare => uptoBulkAll elems + uptoBulkAll spare + 1
  | .agg parts => uptoBulkAll parts + 1
  | .iface _ d => uptoBulk d + 1
  | .map entries => uptoBulkEntries entries + 1
  | .held _ => 1
def uptoBulkAll {H : Type} : List (DataW H) → Nat
  | [] => 0
  | d :: r => uptoBulk d + uptoBulkAll r
def uptoBulkEntries {H : Type} : List (Lit × DataW H) → Nat
  | [] => 0
  | x :: r => uptoBulkEntry x + uptoBulkEntries r
def uptoBulkEntry {H : Type} : Lit × DataW H → Nat
  | (.string bytes, d) => bytes.length + uptoBulk d + 1
  | (_, d) => uptoBulk d + 1
 end
def uptoSmall : (H : Type) → List (DataW H) → Bool := fun _ ds => decide (uptoBulkAll ds ≤ 1048576)
def OpenSpec.upto (s : _root_.Go.ChangeSpec) : _root_.Go.OpenSpec := { _root_.Go.OpenSpec.ofChange s with cond := some uptoSmall }

/-- 'incunablelaw29.TalkAsks', WHERE WHAT IT READS IS OF BULK AT MOST 1048576: true; the input reads as it did. -/
def talkAsksUptoRow : OpenClaim := { program := "ytmjeefecjgfdjaadoor", sum := "572ee9467ca9f00f03259862a967f9a2fa598e3f944025ba70de52065152c8bd", func := "incunable/incunablelaw29.TalkAsks", spec := "talkAsks", inPlace := ["internal/bytealg.IndexByteString", "internal/bytealg.IndexString"], unfollowed := true, recurses := true, named := ["unicode/utf8.first", "unicode/utf8.acceptRanges", "internal/bytealg.MaxLen"], apart := false, laid := [("unicode/utf8.acceptRanges", laid_unicode_utf8_acceptRanges), ("unicode/utf8.first", laid_unicode_utf8_first)], narrowed := true }
def TalkAsksUptoSaid : Prop := talkAsksUptoRow.holds Tryd.pinned (OpenSpec.upto talkAsksSpec)

/-- 'incunablelaw29.TalkAnswers', WHERE WHAT IT READS IS OF BULK AT MOST 1048576: true; the input reads as it did. -/
def talkAnswersUptoRow : OpenClaim := { program := "ytmjeefecjgfdjaadoor", sum := "572ee9467ca9f00f03259862a967f9a2fa598e3f944025ba70de52065152c8bd", func := "incunable/incunablelaw29.TalkAnswers", spec := "talkAnswers", inPlace := ["internal/bytealg.IndexByteString", "internal/bytealg.IndexString"], unfollowed := true, recurses := true, named := ["unicode/utf8.first", "unicode/utf8.acceptRanges", "internal/bytealg.MaxLen"], apart := false, laid := [("unicode/utf8.acceptRanges", laid_unicode_utf8_acceptRanges), ("unicode/utf8.first", laid_unicode_utf8_first)], narrowed := true }
def TalkAnswersUptoSaid : Prop := talkAnswersUptoRow.holds Tryd.pinned (OpenSpec.upto talkAnswersSpec)

/-- 'incunablelaw29.TalkReads', WHERE WHAT IT READS IS OF BULK AT MOST 1048576: true; the input reads as it did. -/
def talkReadsUptoRow : OpenClaim := { program := "ytmjeefecjgfdjaadoor", sum := "572ee9467ca9f00f03259862a967f9a2fa598e3f944025ba70de52065152c8bd", func := "incunable/incunablelaw29.TalkReads", spec := "talkReads", inPlace := ["internal/bytealg.IndexByteString", "internal/bytealg.IndexString"], unfollowed := true, recurses := true, named := ["unicode/utf8.first", "unicode/utf8.acceptRanges", "internal/bytealg.MaxLen"], apart := false, laid := [("unicode/utf8.acceptRanges", laid_unicode_utf8_acceptRanges), ("unicode/utf8.first", laid_unicode_utf8_first)], narrowed := true }
def TalkReadsUptoSaid : Prop := talkReadsUptoRow.holds Tryd.pinned (OpenSpec.upto talkReadsSpec)

/-- 'incunablelaw29.TalkBack', WHERE WHAT IT READS IS OF BULK AT MOST 1048576: true; the input reads as it did. -/
def talkBackUptoRow : OpenClaim := { program := "ytmjeefecjgfdjaadoor", sum := "572ee9467ca9f00f03259862a967f9a2fa598e3f944025ba70de52065152c8bd", func := "incunable/incunablelaw29.TalkBack", spec := "talkBack", inPlace := ["internal/bytealg.IndexByteString", "internal/bytealg.IndexString"], unfollowed := true, recurses := true, named := ["unicode/utf8.first", "unicode/utf8.acceptRanges", "internal/bytealg.MaxLen"], apart := false, laid := [("unicode/utf8.acceptRanges", laid_unicode_utf8_acceptRanges), ("unicode/utf8.first", laid_unicode_utf8_first)], narrowed := true }
def TalkBackUptoSaid : Prop := talkBackUptoRow.holds Tryd.pinned (OpenSpec.upto talkBackSpec)

/-- 'incunablelaw29.TalkJust', WHERE WHAT IT READS IS OF BULK AT MOST 1048576: true; the input reads as it did. -/
def talkJustUptoRow : OpenClaim := { program := "ytmjeefecjgfdjaadoor", sum := "572ee9467ca9f00f03259862a967f9a2fa598e3f944025ba70de52065152c8bd", func := "incunable/incunablelaw29.TalkJust", spec := "talkJust", inPlace := ["internal/bytealg.IndexByteString", "internal/bytealg.IndexString"], unfollowed := true, recurses := true, named := ["unicode/utf8.first", "unicode/utf8.acceptRanges", "internal/bytealg.MaxLen"], apart := false, laid := [("unicode/utf8.acceptRanges", laid_unicode_utf8_acceptRanges), ("unicode/utf8.first", laid_unicode_utf8_first)], narrowed := true }
def TalkJustUptoSaid : Prop := talkJustUptoRow.holds Tryd.pinned (OpenSpec.upto talkJustSpec)

/-- 'incunablelaw29.TalkCut', WHERE WHAT IT READS IS OF BULK AT MOST 1048576: true; the input reads as it did. -/
def talkCutUptoRow : OpenClaim := { program := "ytmjeefecjgfdjaadoor", sum := "572ee9467ca9f00f03259862a967f9a2fa598e3f944025ba70de52065152c8bd", func := "incunable/incunablelaw29.TalkCut", spec := "talkCut", inPlace := ["internal/bytealg.IndexByteString", "internal/bytealg.IndexString"], unfollowed := true, recurses := true, named := ["unicode/utf8.first", "unicode/utf8.acceptRanges", "internal/bytealg.MaxLen"], apart := false, laid := [("unicode/utf8.acceptRanges", laid_unicode_utf8_acceptRanges), ("unicode/utf8.first", laid_unicode_utf8_first)], narrowed := true }
def TalkCutUptoSaid : Prop := talkCutUptoRow.holds Tryd.pinned (OpenSpec.upto talkCutSpec)

/-- 'incunablelaw29.TalkKnown', WHERE WHAT IT READS IS OF BULK AT MOST 1048576: true; the input reads as it did. -/
def talkKnownUptoRow : OpenClaim := { program := "ytmjeefecjgfdjaadoor", sum := "572ee9467ca9f00f03259862a967f9a2fa598e3f944025ba70de52065152c8bd", func := "incunable/incunablelaw29.TalkKnown", spec := "talkKnown", inPlace := ["internal/abi.NoEscape", "internal/bytealg.MakeNoZero", "internal/bytealg.IndexByteString", "internal/bytealg.IndexString"], unfollowed := true, recurses := true, named := ["unicode/utf8.first", "unicode/utf8.acceptRanges", "internal/bytealg.MaxLen"], apart := false, laid := [("unicode/utf8.acceptRanges", laid_unicode_utf8_acceptRanges), ("unicode/utf8.first", laid_unicode_utf8_first)], narrowed := true }
def TalkKnownUptoSaid : Prop := talkKnownUptoRow.holds Tryd.pinned (OpenSpec.upto talkKnownSpec)

end Rows
end Go.Proofs.YtmjeefecjgfdjaaDoor
