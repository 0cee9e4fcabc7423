/-
  NARROWER THAN 'FOR EVERY INPUT', by the rows' own cells (each row's printed sentence says how): RegexPrints: laid · RegexTakes: laid · RegexBack: laid · RegexAgain: laid · RegexParts: laid · RegexWritten: laid · RegexOrder: laid · RegexKnown: laid.
  DERIVED. THE GIVEN ROWS OF THIS SEAT. 8 by the template 'for every input the law returns true; each argument reads behind the call as it read before'; 0 by the template 'total and deterministic' (their statements: YtimhmmeoliagjaaDoorTotals.lean).
  GIVEN WITH THE SEED: the statements are not yours to turn. If you find one false, say at which input.
  Laid BY PROGRAM, IN A SANDBOX (cutbox-rows.mjs): the forced cells as the released guide's own fill.sh prints them over the translation 1cc0de71ed4dab26… (all of the seat's roots in one cut). By AI agents, Wed Nov 11 2026. No macro, syntax, notation, axiom, sorry.
-/
import Derived.Test.YtimhmmeoliagjaaDoorChecked
import GoSem.Claim
import GoSem.ClaimJoined
import GoSem.ClaimMapViews
import Derived.JoinedTies
import Derived.KernelRfl
namespace Go.Proofs.YtimhmmeoliagjaaDoor
/- THE CELL 'sum', in the pinned program and in every row, IS THE sha256 OF THE DUMP (.gsa) THAT YtimhmmeoliagjaaDoorProg.lean LOADS. Nothing in Lean hashes anything: it is a label: what it is worth is what the hold of that sum in a sandbox is worth. -/
noncomputable def Tryd.pinned : Pinned := { name := "ytimhmmeoliagjaadoor", sum := "1cc0de71ed4dab26035e01bd817ee13cd3244ea035e696772bb2bcaba1f20269", checked := Tryd.checked }
namespace Rows
def none {H : Type} : Left H := { results := [], args := [] }

/- WHAT THE LISTED PACKAGE-LEVEL VARIABLES READ AS WHEN THE CALL BEGINS. Each datum BY PROGRAM (the guide's laid-datum.mjs) off the statement by which the dump's own 'gosem.cut.vars' lays the variable. In a bare row this is a premise. The card (YtimhmmeoliagjaaDoorCards.lean) ties it to the program's text. -/
def laid_math_bits_deBruijn64tab {H : Type} : DataW H := .agg [.lit (.int .u8 0), .lit (.int .u8 1), .lit (.int .u8 56), .lit (.int .u8 2), .lit (.int .u8 57), .lit (.int .u8 49), .lit (.int .u8 28), .lit (.int .u8 3), .lit (.int .u8 61), .lit (.int .u8 58), .lit (.int .u8 42), .lit (.int .u8 50), .lit (.int .u8 38), .lit (.int .u8 29), .lit (.int .u8 17), .lit (.int .u8 4), .lit (.int .u8 62), .lit (.int .u8 47), .lit (.int .u8 59), .lit (.int .u8 36), .lit (.int .u8 45), .lit (.int .u8 43), .lit (.int .u8 51), .lit (.int .u8 22), .lit (.int .u8 53), .lit (.int .u8 39), .lit (.int .u8 33), .lit (.int .u8 30), .lit (.int .u8 24), .lit (.int .u8 18), .lit (.int .u8 12), .lit (.int .u8 5), .lit (.int .u8 63), .lit (.int .u8 55), .lit (.int .u8 48), .lit (.int .u8 27), .lit (.int .u8 60), .lit (.int .u8 41), .lit (.int .u8 37), .lit (.int .u8 16), .lit (.int .u8 46), .lit (.int .u8 35), .lit (.int .u8 44), .lit (.int .u8 21), .lit (.int .u8 52), .lit (.int .u8 32), .lit (.int .u8 23), .lit (.int .u8 11), .lit (.int .u8 54), .lit (.int .u8 26), .lit (.int .u8 40), .lit (.int .u8 15), .lit (.int .u8 34), .lit (.int .u8 20), .lit (.int .u8 31), .lit (.int .u8 10), .lit (.int .u8 25), .lit (.int .u8 14), .lit (.int .u8 19), .lit (.int .u8 9), .lit (.int .u8 13), .lit (.int .u8 8), .lit (.int .u8 7), .lit (.int .u8 6)]
def laid_incunable_regex_letters {H : Type} : DataW H := .slice [.agg [.lit (.int .u8 110), .lit (.int .u8 10)], .agg [.lit (.int .u8 116), .lit (.int .u8 9)], .agg [.lit (.int .u8 114), .lit (.int .u8 13)]] []

/-- 'incunablelaw09.RegexPrints': WHATEVER THE INPUT: true; the input reads as it did. -/
def regexPrintsSpec : ChangeSpec := { name := "regexPrints", fn := fun _ => fun
  | [d] => { results := [.lit (.bool true)], args := [d] }
  | _ => none }
def regexPrintsRow : OpenClaim := { program := "ytimhmmeoliagjaadoor", sum := "1cc0de71ed4dab26035e01bd817ee13cd3244ea035e696772bb2bcaba1f20269", func := "incunable/incunablelaw09.RegexPrints", spec := "regexPrints", inPlace := ["internal/bytealg.IndexByteString", "internal/abi.NoEscape"], unfollowed := true, recurses := true, named := ["math/bits.deBruijn64tab", "incunable/regex.letters"], apart := false, laid := [("math/bits.deBruijn64tab", laid_math_bits_deBruijn64tab), ("incunable/regex.letters", laid_incunable_regex_letters)] }
def RegexPrintsSaid : Prop := regexPrintsRow.holds Tryd.pinned (OpenSpec.ofChange regexPrintsSpec)

/-- ITS FALSE NEIGHBOUR: 'it returns false'. Refute it at one input. -/
def regexPrintsWrong : ChangeSpec := { name := "regexPrints", fn := fun _ => fun
  | [d] => { results := [.lit (.bool false)], args := [d] }
  | _ => none }
def RegexPrintsWrongFalsely : Prop := regexPrintsRow.holds Tryd.pinned (OpenSpec.ofChange regexPrintsWrong)

/-- 'incunablelaw09.RegexTakes': WHATEVER THE INPUT: true; the input reads as it did. -/
def regexTakesSpec : ChangeSpec := { name := "regexTakes", fn := fun _ => fun
  | [d1, d2] => { results := [.lit (.bool true)], args := [d1, d2] }
  | _ => none }
def regexTakesRow : OpenClaim := { program := "ytimhmmeoliagjaadoor", sum := "1cc0de71ed4dab26035e01bd817ee13cd3244ea035e696772bb2bcaba1f20269", func := "incunable/incunablelaw09.RegexTakes", spec := "regexTakes", inPlace := ["internal/bytealg.IndexByteString", "internal/abi.NoEscape"], unfollowed := true, recurses := true, named := ["incunable/regex.letters", "math/bits.deBruijn64tab"], apart := false, laid := [("math/bits.deBruijn64tab", laid_math_bits_deBruijn64tab), ("incunable/regex.letters", laid_incunable_regex_letters)] }
def RegexTakesSaid : Prop := regexTakesRow.holds Tryd.pinned (OpenSpec.ofChange regexTakesSpec)

/-- ITS FALSE NEIGHBOUR: 'it returns false'. Refute it at one input. -/
def regexTakesWrong : ChangeSpec := { name := "regexTakes", fn := fun _ => fun
  | [d1, d2] => { results := [.lit (.bool false)], args := [d1, d2] }
  | _ => none }
def RegexTakesWrongFalsely : Prop := regexTakesRow.holds Tryd.pinned (OpenSpec.ofChange regexTakesWrong)

/-- 'incunablelaw09.RegexBack': WHATEVER THE INPUT: true; the input reads as it did. -/
def regexBackSpec : ChangeSpec := { name := "regexBack", fn := fun _ => fun
  | [d] => { results := [.lit (.bool true)], args := [d] }
  | _ => none }
def regexBackRow : OpenClaim := { program := "ytimhmmeoliagjaadoor", sum := "1cc0de71ed4dab26035e01bd817ee13cd3244ea035e696772bb2bcaba1f20269", func := "incunable/incunablelaw09.RegexBack", spec := "regexBack", inPlace := ["internal/bytealg.IndexByteString", "internal/abi.NoEscape"], unfollowed := true, recurses := true, named := ["incunable/regex.letters", "math/bits.deBruijn64tab"], apart := false, laid := [("math/bits.deBruijn64tab", laid_math_bits_deBruijn64tab), ("incunable/regex.letters", laid_incunable_regex_letters)] }
def RegexBackSaid : Prop := regexBackRow.holds Tryd.pinned (OpenSpec.ofChange regexBackSpec)

/-- ITS FALSE NEIGHBOUR: 'it returns false'. Refute it at one input. -/
def regexBackWrong : ChangeSpec := { name := "regexBack", fn := fun _ => fun
  | [d] => { results := [.lit (.bool false)], args := [d] }
  | _ => none }
def RegexBackWrongFalsely : Prop := regexBackRow.holds Tryd.pinned (OpenSpec.ofChange regexBackWrong)

/-- 'incunablelaw09.RegexAgain': WHATEVER THE INPUT: true; the input reads as it did. -/
def regexAgainSpec : ChangeSpec := { name := "regexAgain", fn := fun _ => fun
  | [d] => { results := [.lit (.bool true)], args := [d] }
  | _ => none }
def regexAgainRow : OpenClaim := { program := "ytimhmmeoliagjaadoor", sum := "1cc0de71ed4dab26035e01bd817ee13cd3244ea035e696772bb2bcaba1f20269", func := "incunable/incunablelaw09.RegexAgain", spec := "regexAgain", inPlace := ["internal/bytealg.IndexByteString", "internal/abi.NoEscape"], unfollowed := true, recurses := true, named := ["incunable/regex.letters", "math/bits.deBruijn64tab"], apart := false, laid := [("math/bits.deBruijn64tab", laid_math_bits_deBruijn64tab), ("incunable/regex.letters", laid_incunable_regex_letters)] }
def RegexAgainSaid : Prop := regexAgainRow.holds Tryd.pinned (OpenSpec.ofChange regexAgainSpec)

/-- ITS FALSE NEIGHBOUR: 'it returns false'. Refute it at one input. -/
def regexAgainWrong : ChangeSpec := { name := "regexAgain", fn := fun _ => fun
  | [d] => { results := [.lit (.bool false)], args := [d] }
  | _ => none }
def RegexAgainWrongFalsely : Prop := regexAgainRow.holds Tryd.pinned (OpenSpec.ofChange regexAgainWrong)

/-- 'incunablelaw09.RegexParts': WHATEVER THE INPUT: true; the input reads as it did. -/
def regexPartsSpec : ChangeSpec := { name := "regexParts", fn := fun _ => fun
  | [d1, d2, d3] => { results := [.lit (.bool true)], args := [d1, d2, d3] }
  | _ => none }
def regexPartsRow : OpenClaim := { program := "ytimhmmeoliagjaadoor", sum := "1cc0de71ed4dab26035e01bd817ee13cd3244ea035e696772bb2bcaba1f20269", func := "incunable/incunablelaw09.RegexParts", spec := "regexParts", inPlace := ["internal/bytealg.IndexByteString", "internal/abi.NoEscape"], unfollowed := true, recurses := true, named := ["incunable/regex.letters", "math/bits.deBruijn64tab"], apart := false, laid := [("math/bits.deBruijn64tab", laid_math_bits_deBruijn64tab), ("incunable/regex.letters", laid_incunable_regex_letters)] }
def RegexPartsSaid : Prop := regexPartsRow.holds Tryd.pinned (OpenSpec.ofChange regexPartsSpec)

/-- ITS FALSE NEIGHBOUR: 'it returns false'. Refute it at one input. -/
def regexPartsWrong : ChangeSpec := { name := "regexParts", fn := fun _ => fun
  | [d1, d2, d3] => { results := [.lit (.bool false)], args := [d1, d2, d3] }
  | _ => none }
def RegexPartsWrongFalsely : Prop := regexPartsRow.holds Tryd.pinned (OpenSpec.ofChange regexPartsWrong)

/-- 'incunablelaw09.RegexWritten': WHATEVER THE INPUT: true; the input reads as it did. -/
def regexWrittenSpec : ChangeSpec := { name := "regexWritten", fn := fun _ => fun
  | [d1, d2] => { results := [.lit (.bool true)], args := [d1, d2] }
  | _ => none }
def regexWrittenRow : OpenClaim := { program := "ytimhmmeoliagjaadoor", sum := "1cc0de71ed4dab26035e01bd817ee13cd3244ea035e696772bb2bcaba1f20269", func := "incunable/incunablelaw09.RegexWritten", spec := "regexWritten", inPlace := ["internal/bytealg.IndexByteString", "internal/abi.NoEscape"], unfollowed := true, recurses := true, named := ["incunable/regex.letters", "math/bits.deBruijn64tab"], apart := false, laid := [("math/bits.deBruijn64tab", laid_math_bits_deBruijn64tab), ("incunable/regex.letters", laid_incunable_regex_letters)] }
def RegexWrittenSaid : Prop := regexWrittenRow.holds Tryd.pinned (OpenSpec.ofChange regexWrittenSpec)

/-- ITS FALSE NEIGHBOUR: 'it returns false'. Refute it at one input. -/
def regexWrittenWrong : ChangeSpec := { name := "regexWritten", fn := fun _ => fun
  | [d1, d2] => { results := [.lit (.bool false)], args := [d1, d2] }
  | _ => none }
def RegexWrittenWrongFalsely : Prop := regexWrittenRow.holds Tryd.pinned (OpenSpec.ofChange regexWrittenWrong)

/-- 'incunablelaw09.RegexOrder': WHATEVER THE INPUT: true; the input reads as it did. -/
def regexOrderSpec : ChangeSpec := { name := "regexOrder", fn := fun _ => fun
  | [d1, d2] => { results := [.lit (.bool true)], args := [d1, d2] }
  | _ => none }
def regexOrderRow : OpenClaim := { program := "ytimhmmeoliagjaadoor", sum := "1cc0de71ed4dab26035e01bd817ee13cd3244ea035e696772bb2bcaba1f20269", func := "incunable/incunablelaw09.RegexOrder", spec := "regexOrder", inPlace := ["internal/bytealg.IndexByteString", "internal/abi.NoEscape"], unfollowed := true, recurses := true, named := ["incunable/regex.letters", "math/bits.deBruijn64tab"], apart := false, laid := [("math/bits.deBruijn64tab", laid_math_bits_deBruijn64tab), ("incunable/regex.letters", laid_incunable_regex_letters)] }
def RegexOrderSaid : Prop := regexOrderRow.holds Tryd.pinned (OpenSpec.ofChange regexOrderSpec)

/-- ITS FALSE NEIGHBOUR: 'it returns false'. Refute it at one input. -/
def regexOrderWrong : ChangeSpec := { name := "regexOrder", fn := fun _ => fun
  | [d1, d2] => { results := [.lit (.bool false)], args := [d1, d2] }
  | _ => none }
def RegexOrderWrongFalsely : Prop := regexOrderRow.holds Tryd.pinned (OpenSpec.ofChange regexOrderWrong)

/-- 'incunablelaw09.RegexKnown': WHATEVER THE INPUT: true; the input reads as it did. -/
def regexKnownSpec : ChangeSpec := { name := "regexKnown", fn := fun _ => fun
  | [] => { results := [.lit (.bool true)], args := [] }
  | _ => none }
def regexKnownRow : OpenClaim := { program := "ytimhmmeoliagjaadoor", sum := "1cc0de71ed4dab26035e01bd817ee13cd3244ea035e696772bb2bcaba1f20269", func := "incunable/incunablelaw09.RegexKnown", spec := "regexKnown", inPlace := ["internal/bytealg.IndexByteString", "internal/abi.NoEscape", "internal/bytealg.MakeNoZero"], unfollowed := true, recurses := true, named := ["incunable/regex.letters", "math/bits.deBruijn64tab"], apart := false, laid := [("math/bits.deBruijn64tab", laid_math_bits_deBruijn64tab), ("incunable/regex.letters", laid_incunable_regex_letters)] }
def RegexKnownSaid : Prop := regexKnownRow.holds Tryd.pinned (OpenSpec.ofChange regexKnownSpec)

/-- ITS FALSE NEIGHBOUR: 'it returns false'. Refute it at one input. -/
def regexKnownWrong : ChangeSpec := { name := "regexKnown", fn := fun _ => fun
  | [] => { results := [.lit (.bool false)], args := [] }
  | _ => none }
def RegexKnownWrongFalsely : Prop := regexKnownRow.holds Tryd.pinned (OpenSpec.ofChange regexKnownWrong)

/- THE SECOND FORM. 'bulk': how many values and letters a reading holds, each counted each time it is reached (what is shared counts as often as it is met; a slice's spare places count too). A statement '..UptoSaid' is the law's where the arguments, and the package variables that the reading takes, are together of bulk at most 1048576: NARROWER than '..Said'. Prove '..Said' where nothing that the law and all that it calls make is longer than what came in: it says more and counts as full. Else prove '..UptoSaid'. A law counts once. -/
mutual
def uptoBulk {H : Type} : DataW H → Nat
  | .lit (.string bytes) => bytes.length + 1
  | .lit _ => 1
  | .nil => 1
  | .ptr d => uptoBulk d + 1
  | .slice elems spare => uptoBulkAll elems + uptoBulkAll spare + 1
  | .agg parts => uptoBulkAll parts + 1
  | .iface _ d => uptoBulk d + 1
  | .map entries => uptoBulkEntries entries + 1
  | .held _ => 1
def uptoBulkAll {H : Type} : List (DataW H) → Nat
  | [] => 0
  | d :: r => uptoBulk d + uptoBulkAll r
def uptoBulkEntries {H : Type} : List (Lit × DataW H) → Nat
  | [] => 0
  | x :: r => uptoBulkEntry x + uptoBulkEntries r
def uptoBulkEntry {H : Type} : Lit × DataW H → Nat
  | (.string bytes, d) => bytes.length + uptoBulk d + 1
  | (_, d) => uptoBulk d + 1
 end
def uptoSmall : (H : Type) → List (DataW H) → Bool := fun _ ds => decide (uptoBulkAll ds ≤ 1048576)
def OpenSpec.upto (s : _root_.Go.ChangeSpec) : _root_.Go.OpenSpec := { _root_.Go.OpenSpec.ofChange s with cond := some uptoSmall }

/-- 'incunablelaw09.RegexPrints', WHERE WHAT IT READS IS OF BULK AT MOST 1048576: true; the input reads as it did. -/
def regexPrintsUptoRow : OpenClaim := { program := "ytimhmmeoliagjaadoor", sum := "1cc0de71ed4dab26035e01bd817ee13cd3244ea035e696772bb2bcaba1f20269", func := "incunable/incunablelaw09.RegexPrints", spec := "regexPrints", inPlace := ["internal/bytealg.IndexByteString", "internal/abi.NoEscape"], unfollowed := true, recurses := true, named := ["math/bits.deBruijn64tab", "incunable/regex.letters"], apart := false, laid := [("math/bits.deBruijn64tab", laid_math_bits_deBruijn64tab), ("incunable/regex.letters", laid_incunable_regex_letters)], narrowed := true }
def RegexPrintsUptoSaid : Prop := regexPrintsUptoRow.holds Tryd.pinned (OpenSpec.upto regexPrintsSpec)

/-- 'incunablelaw09.RegexTakes', WHERE WHAT IT READS IS OF BULK AT MOST 1048576: true; the input reads as it did. -/
def regexTakesUptoRow : OpenClaim := { program := "ytimhmmeoliagjaadoor", sum := "1cc0de71ed4dab26035e01bd817ee13cd3244ea035e696772bb2bcaba1f20269", func := "incunable/incunablelaw09.RegexTakes", spec := "regexTakes", inPlace := ["internal/bytealg.IndexByteString", "internal/abi.NoEscape"], unfollowed := true, recurses := true, named := ["incunable/regex.letters", "math/bits.deBruijn64tab"], apart := false, laid := [("math/bits.deBruijn64tab", laid_math_bits_deBruijn64tab), ("incunable/regex.letters", laid_incunable_regex_letters)], narrowed := true }
def RegexTakesUptoSaid : Prop := regexTakesUptoRow.holds Tryd.pinned (OpenSpec.upto regexTakesSpec)

/-- 'incunablelaw09.RegexBack', WHERE WHAT IT READS IS OF BULK AT MOST 1048576: true; the input reads as it did. -/
def regexBackUptoRow : OpenClaim := { program := "ytimhmmeoliagjaadoor", sum := "1cc0de71ed4dab26035e01bd817ee13cd3244ea035e696772bb2bcaba1f20269", func := "incunable/incunablelaw09.RegexBack", spec := "regexBack", inPlace := ["internal/bytealg.IndexByteString", "internal/abi.NoEscape"], unfollowed := true, recurses := true, named := ["incunable/regex.letters", "math/bits.deBruijn64tab"], apart := false, laid := [("math/bits.deBruijn64tab", laid_math_bits_deBruijn64tab), ("incunable/regex.letters", laid_incunable_regex_letters)], narrowed := true }
def RegexBackUptoSaid : Prop := regexBackUptoRow.holds Tryd.pinned (OpenSpec.upto regexBackSpec)

/-- 'incunablelaw09.RegexAgain', WHERE WHAT IT READS IS OF BULK AT MOST 1048576: true; the input reads as it did. -/
def regexAgainUptoRow : OpenClaim := { program := "ytimhmmeoliagjaadoor", sum := "1cc0de71ed4dab26035e01bd817ee13cd3244ea035e696772bb2bcaba1f20269", func := "incunable/incunablelaw09.RegexAgain", spec := "regexAgain", inPlace := ["internal/bytealg.IndexByteString", "internal/abi.NoEscape"], unfollowed := true, recurses := true, named := ["incunable/regex.letters", "math/bits.deBruijn64tab"], apart := false, laid := [("math/bits.deBruijn64tab", laid_math_bits_deBruijn64tab), ("incunable/regex.letters", laid_incunable_regex_letters)], narrowed := true }
def RegexAgainUptoSaid : Prop := regexAgainUptoRow.holds Tryd.pinned (OpenSpec.upto regexAgainSpec)

/-- 'incunablelaw09.RegexParts', WHERE WHAT IT READS IS OF BULK AT MOST 1048576: true; the input reads as it did. -/
def regexPartsUptoRow : OpenClaim := { program := "ytimhmmeoliagjaadoor", sum := "1cc0de71ed4dab26035e01bd817ee13cd3244ea035e696772bb2bcaba1f20269", func := "incunable/incunablelaw09.RegexParts", spec := "regexParts", inPlace := ["internal/bytealg.IndexByteString", "internal/abi.NoEscape"], unfollowed := true, recurses := true, named := ["incunable/regex.letters", "math/bits.deBruijn64tab"], apart := false, laid := [("math/bits.deBruijn64tab", laid_math_bits_deBruijn64tab), ("incunable/regex.letters", laid_incunable_regex_letters)], narrowed := true }
def RegexPartsUptoSaid : Prop := regexPartsUptoRow.holds Tryd.pinned (OpenSpec.upto regexPartsSpec)

/-- 'incunablelaw09.RegexWritten', WHERE WHAT IT READS IS OF BULK AT MOST 1048576: true; the input reads as it did. -/
def regexWrittenUptoRow : OpenClaim := { program := "ytimhmmeoliagjaadoor", sum := "1cc0de71ed4dab26035e01bd817ee13cd3244ea035e696772bb2bcaba1f20269", func := "incunable/incunablelaw09.RegexWritten", spec := "regexWritten", inPlace := ["internal/bytealg.IndexByteString", "internal/abi.NoEscape"], unfollowed := true, recurses := true, named := ["incunable/regex.letters", "math/bits.deBruijn64tab"], apart := false, laid := [("math/bits.deBruijn64tab", laid_math_bits_deBruijn64tab), ("incunable/regex.letters", laid_incunable_regex_letters)], narrowed := true }
def RegexWrittenUptoSaid : Prop := regexWrittenUptoRow.holds Tryd.pinned (OpenSpec.upto regexWrittenSpec)

/-- 'incunablelaw09.RegexOrder', WHERE WHAT IT READS IS OF BULK AT MOST 1048576: true; the input reads as it did. -/
def regexOrderUptoRow : OpenClaim := { program := "ytimhmmeoliagjaadoor", sum := "1cc0de71ed4dab26035e01bd817ee13cd3244ea035e696772bb2bcaba1f20269", func := "incunable/incunablelaw09.RegexOrder", spec := "regexOrder", inPlace := ["internal/bytealg.IndexByteString", "internal/abi.NoEscape"], unfollowed := true, recurses := true, named := ["incunable/regex.letters", "math/bits.deBruijn64tab"], apart := false, laid := [("math/bits.deBruijn64tab", laid_math_bits_deBruijn64tab), ("incunable/regex.letters", laid_incunable_regex_letters)], narrowed := true }
def RegexOrderUptoSaid : Prop := regexOrderUptoRow.holds Tryd.pinned (OpenSpec.upto regexOrderSpec)

/-- 'incunablelaw09.RegexKnown', WHERE WHAT IT READS IS OF BULK AT MOST 1048576: true; the input reads as it did. -/
def regexKnownUptoRow : OpenClaim := { program := "ytimhmmeoliagjaadoor", sum := "1cc0de71ed4dab26035e01bd817ee13cd3244ea035e696772bb2bcaba1f20269", func := "incunable/incunablelaw09.RegexKnown", spec := "regexKnown", inPlace := ["internal/bytealg.IndexByteString", "internal/abi.NoEscape", "internal/bytealg.MakeNoZero"], unfollowed := true, recurses := true, named := ["incunable/regex.letters", "math/bits.deBruijn64tab"], apart := false, laid := [("math/bits.deBruijn64tab", laid_math_bits_deBruijn64tab), ("incunable/regex.letters", laid_incunable_regex_letters)], narrowed := true }
def RegexKnownUptoSaid : Prop := regexKnownUptoRow.holds Tryd.pinned (OpenSpec.upto regexKnownSpec)

end Rows
end Go.Proofs.YtimhmmeoliagjaaDoor
