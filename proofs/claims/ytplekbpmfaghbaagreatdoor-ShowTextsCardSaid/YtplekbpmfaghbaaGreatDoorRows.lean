/-
  NARROWER THAN 'FOR EVERY INPUT', by the rows' own cells (each row's printed sentence says how): ShowParts: loops, laid · ShowPrograms: loops, laid · ArithEvals: loops, laid · ParseBlanks: laid · ArithHolds: laid · ParseFormed: laid · ArithSolves: loops, laid · ArithWhole: loops, laid · ShowTexts: laid.
  DERIVED. THE GIVEN ROWS OF THIS SEAT. 9 by the template 'for every input the law returns true; each argument reads behind the call as it read before'; 0 by the template 'total and deterministic' (their statements: YtplekbpmfaghbaaGreatDoorTotals.lean).
  GIVEN WITH THE SEED: the statements are not yours to turn. If you find one false, say at which input.
  Laid BY PROGRAM, IN A SANDBOX (cutbox-rows.mjs): the forced cells as the released guide's own fill.sh prints them over the translation c6cc8e1f22aed195… (all of the seat's roots in one cut). By AI agents, Wed Nov 11 2026. No macro, syntax, notation, axiom, sorry.
-/
import Derived.Test.YtplekbpmfaghbaaGreatDoorChecked
import GoSem.Claim
import GoSem.ClaimJoined
import GoSem.ClaimMapViews
import Derived.JoinedTies
import Derived.KernelRfl
namespace Go.Proofs.YtplekbpmfaghbaaGreatDoor
/- THE CELL 'sum', in the pinned program and in every row, IS THE sha256 OF THE DUMP (.gsa) THAT YtplekbpmfaghbaaGreatDoorProg.lean LOADS. Nothing in Lean hashes anything: it is a label: what it is worth is what the hold of that sum in a sandbox is worth. -/
noncomputable def Tryz.pinned : Pinned := { name := "ytplekbpmfaghbaagreatdoor", sum := "c6cc8e1f22aed1952452811861e8ca9bb4b3290e7fd3f7ab2bfcab8eefc7061f", checked := Tryz.checked }
namespace Rows
def none {H : Type} : Left H := { results := [], args := [] }

/- WHAT THE LISTED PACKAGE-LEVEL VARIABLES READ AS WHEN THE CALL BEGINS. Each datum BY PROGRAM (the guide's laid-datum.mjs) off the statement by which the dump's own 'gosem.cut.vars' lays the variable. In a bare row this is a premise. The card (YtplekbpmfaghbaaGreatDoorCards.lean) ties it to the program's text. -/
def laid_math_bits_deBruijn32tab {H : Type} : DataW H := .agg [.lit (.int .u8 0), .lit (.int .u8 1), .lit (.int .u8 28), .lit (.int .u8 2), .lit (.int .u8 29), .lit (.int .u8 14), .lit (.int .u8 24), .lit (.int .u8 3), .lit (.int .u8 30), .lit (.int .u8 22), .lit (.int .u8 20), .lit (.int .u8 15), .lit (.int .u8 25), .lit (.int .u8 17), .lit (.int .u8 4), .lit (.int .u8 8), .lit (.int .u8 31), .lit (.int .u8 27), .lit (.int .u8 13), .lit (.int .u8 23), .lit (.int .u8 21), .lit (.int .u8 19), .lit (.int .u8 16), .lit (.int .u8 7), .lit (.int .u8 26), .lit (.int .u8 12), .lit (.int .u8 18), .lit (.int .u8 6), .lit (.int .u8 11), .lit (.int .u8 5), .lit (.int .u8 10), .lit (.int .u8 9)]
def laid_math_bits_deBruijn64tab {H : Type} : DataW H := .agg [.lit (.int .u8 0), .lit (.int .u8 1), .lit (.int .u8 56), .lit (.int .u8 2), .lit (.int .u8 57), .lit (.int .u8 49), .lit (.int .u8 28), .lit (.int .u8 3), .lit (.int .u8 61), .lit (.int .u8 58), .lit (.int .u8 42), .lit (.int .u8 50), .lit (.int .u8 38), .lit (.int .u8 29), .lit (.int .u8 17), .lit (.int .u8 4), .lit (.int .u8 62), .lit (.int .u8 47), .lit (.int .u8 59), .lit (.int .u8 36), .lit (.int .u8 45), .lit (.int .u8 43), .lit (.int .u8 51), .lit (.int .u8 22), .lit (.int .u8 53), .lit (.int .u8 39), .lit (.int .u8 33), .lit (.int .u8 30), .lit (.int .u8 24), .lit (.int .u8 18), .lit (.int .u8 12), .lit (.int .u8 5), .lit (.int .u8 63), .lit (.int .u8 55), .lit (.int .u8 48), .lit (.int .u8 27), .lit (.int .u8 60), .lit (.int .u8 41), .lit (.int .u8 37), .lit (.int .u8 16), .lit (.int .u8 46), .lit (.int .u8 35), .lit (.int .u8 44), .lit (.int .u8 21), .lit (.int .u8 52), .lit (.int .u8 32), .lit (.int .u8 23), .lit (.int .u8 11), .lit (.int .u8 54), .lit (.int .u8 26), .lit (.int .u8 40), .lit (.int .u8 15), .lit (.int .u8 34), .lit (.int .u8 20), .lit (.int .u8 31), .lit (.int .u8 10), .lit (.int .u8 25), .lit (.int .u8 14), .lit (.int .u8 19), .lit (.int .u8 9), .lit (.int .u8 13), .lit (.int .u8 8), .lit (.int .u8 7), .lit (.int .u8 6)]
def laid_internal_strconv_uint64pow10 {H : Type} : DataW H := .agg [.lit (.int .u64 1), .lit (.int .u64 10), .lit (.int .u64 100), .lit (.int .u64 1000), .lit (.int .u64 10000), .lit (.int .u64 100000), .lit (.int .u64 1000000), .lit (.int .u64 10000000), .lit (.int .u64 100000000), .lit (.int .u64 1000000000), .lit (.int .u64 10000000000), .lit (.int .u64 100000000000), .lit (.int .u64 1000000000000), .lit (.int .u64 10000000000000), .lit (.int .u64 100000000000000), .lit (.int .u64 1000000000000000), .lit (.int .u64 10000000000000000), .lit (.int .u64 100000000000000000), .lit (.int .u64 1000000000000000000), .lit (.int .u64 10000000000000000000)]
def laid_strconv_ErrRange {H : Type} : DataW H := .iface "*errors.errorString" (.ptr (.agg [.lit (.string [118, 97, 108, 117, 101, 32, 111, 117, 116, 32, 111, 102, 32, 114, 97, 110, 103, 101])]))
def laid_strconv_ErrSyntax {H : Type} : DataW H := .iface "*errors.errorString" (.ptr (.agg [.lit (.string [105, 110, 118, 97, 108, 105, 100, 32, 115, 121, 110, 116, 97, 120])]))
def laid_corollary_lex_keys {H : Type} : DataW H := .agg [.lit (.string [114, 101, 108]), .lit (.string [105, 110, 116]), .lit (.string [115, 121, 109]), .lit (.string [110, 111, 116]), .lit (.string [99, 111, 117, 110, 116]), .lit (.string [115, 117, 109]), .lit (.string [109, 105, 110]), .lit (.string [109, 97, 120])]
def laid_corollary_lex_signs {H : Type} : DataW H := .agg [.lit (.string [58, 45]), .lit (.string [33, 61]), .lit (.string [60, 61]), .lit (.string [62, 61]), .lit (.string [40]), .lit (.string [41]), .lit (.string [44]), .lit (.string [46]), .lit (.string [61]), .lit (.string [60]), .lit (.string [62]), .lit (.string [43]), .lit (.string [45]), .lit (.string [42])]
def laid_corollary_show_aggs {H : Type} : DataW H := .agg [.lit (.string []), .lit (.string [99, 111, 117, 110, 116]), .lit (.string [115, 117, 109]), .lit (.string [109, 105, 110]), .lit (.string [109, 97, 120])]
def laid_corollary_show_signs {H : Type} : DataW H := .agg [.lit (.string []), .lit (.string [61]), .lit (.string [33, 61]), .lit (.string [60]), .lit (.string [60, 61]), .lit (.string [62]), .lit (.string [62, 61])]
def laid_corollary_show_ops {H : Type} : DataW H := .agg [.lit (.string []), .lit (.string [43]), .lit (.string [45]), .lit (.string [42])]
def laid_corollary_parse_aggs {H : Type} : DataW H := .agg [.lit (.string [99, 111, 117, 110, 116]), .lit (.string [115, 117, 109]), .lit (.string [109, 105, 110]), .lit (.string [109, 97, 120])]
def laid_corollary_parse_signs {H : Type} : DataW H := .agg [.lit (.string [61]), .lit (.string [33, 61]), .lit (.string [60]), .lit (.string [60, 61]), .lit (.string [62]), .lit (.string [62, 61])]

/-- 'corollarylaw07.ShowParts': WHATEVER THE INPUT: true; the input reads as it did. -/
def showPartsSpec : ChangeSpec := { name := "showParts", fn := fun _ => fun
  | [d1, d2, d3] => { results := [.lit (.bool true)], args := [d1, d2, d3] }
  | _ => none }
def showPartsRow : OpenClaim := { program := "ytplekbpmfaghbaagreatdoor", sum := "c6cc8e1f22aed1952452811861e8ca9bb4b3290e7fd3f7ab2bfcab8eefc7061f", func := "corollary/corollarylaw07.ShowParts", spec := "showParts", inPlace := ["internal/bytealg.IndexByteString", "internal/bytealg.IndexString", "internal/abi.NoEscape", "internal/bytealg.MakeNoZero"], unfollowed := true, recurses := true, named := ["internal/bytealg.MaxLen", "corollary/lex.signs", "corollary/lex.keys", "strconv.ErrSyntax", "strconv.ErrRange", "internal/strconv.uint64pow10", "math/bits.deBruijn32tab", "math/bits.deBruijn64tab", "corollary/show.ops", "corollary/show.aggs", "corollary/show.signs"], loops := true, apart := false, laid := [("math/bits.deBruijn32tab", laid_math_bits_deBruijn32tab), ("math/bits.deBruijn64tab", laid_math_bits_deBruijn64tab), ("internal/strconv.uint64pow10", laid_internal_strconv_uint64pow10), ("strconv.ErrRange", laid_strconv_ErrRange), ("strconv.ErrSyntax", laid_strconv_ErrSyntax), ("corollary/lex.keys", laid_corollary_lex_keys), ("corollary/lex.signs", laid_corollary_lex_signs), ("corollary/show.aggs", laid_corollary_show_aggs), ("corollary/show.signs", laid_corollary_show_signs), ("corollary/show.ops", laid_corollary_show_ops)] }
def ShowPartsSaid : Prop := showPartsRow.holds Tryz.pinned (OpenSpec.ofChange showPartsSpec)

/-- ITS FALSE NEIGHBOUR: 'it returns false'. Refute it at one input. -/
def showPartsWrong : ChangeSpec := { name := "showParts", fn := fun _ => fun
  | [d1, d2, d3] => { results := [.lit (.bool false)], args := [d1, d2, d3] }
  | _ => none }
def ShowPartsWrongFalsely : Prop := showPartsRow.holds Tryz.pinned (OpenSpec.ofChange showPartsWrong)

/-- 'corollarylaw07.ShowPrograms': WHATEVER THE INPUT: true; the input reads as it did. -/
def showProgramsSpec : ChangeSpec := { name := "showPrograms", fn := fun _ => fun
  | [d1, d2] => { results := [.lit (.bool true)], args := [d1, d2] }
  | _ => none }
def showProgramsRow : OpenClaim := { program := "ytplekbpmfaghbaagreatdoor", sum := "c6cc8e1f22aed1952452811861e8ca9bb4b3290e7fd3f7ab2bfcab8eefc7061f", func := "corollary/corollarylaw07.ShowPrograms", spec := "showPrograms", inPlace := ["internal/bytealg.IndexByteString", "internal/bytealg.IndexString", "internal/abi.NoEscape", "internal/bytealg.MakeNoZero"], unfollowed := true, recurses := true, named := ["internal/bytealg.MaxLen", "corollary/lex.signs", "corollary/lex.keys", "strconv.ErrSyntax", "strconv.ErrRange", "internal/strconv.uint64pow10", "math/bits.deBruijn32tab", "math/bits.deBruijn64tab", "corollary/show.ops", "corollary/show.aggs", "corollary/show.signs"], loops := true, apart := false, laid := [("math/bits.deBruijn32tab", laid_math_bits_deBruijn32tab), ("math/bits.deBruijn64tab", laid_math_bits_deBruijn64tab), ("internal/strconv.uint64pow10", laid_internal_strconv_uint64pow10), ("strconv.ErrRange", laid_strconv_ErrRange), ("strconv.ErrSyntax", laid_strconv_ErrSyntax), ("corollary/lex.keys", laid_corollary_lex_keys), ("corollary/lex.signs", laid_corollary_lex_signs), ("corollary/show.aggs", laid_corollary_show_aggs), ("corollary/show.signs", laid_corollary_show_signs), ("corollary/show.ops", laid_corollary_show_ops)] }
def ShowProgramsSaid : Prop := showProgramsRow.holds Tryz.pinned (OpenSpec.ofChange showProgramsSpec)

/-- ITS FALSE NEIGHBOUR: 'it returns false'. Refute it at one input. -/
def showProgramsWrong : ChangeSpec := { name := "showPrograms", fn := fun _ => fun
  | [d1, d2] => { results := [.lit (.bool false)], args := [d1, d2] }
  | _ => none }
def ShowProgramsWrongFalsely : Prop := showProgramsRow.holds Tryz.pinned (OpenSpec.ofChange showProgramsWrong)

/-- 'corollarylaw13.ArithEvals': WHATEVER THE INPUT: true; the input reads as it did. -/
def arithEvalsSpec : ChangeSpec := { name := "arithEvals", fn := fun _ => fun
  | [d1, d2] => { results := [.lit (.bool true)], args := [d1, d2] }
  | _ => none }
def arithEvalsRow : OpenClaim := { program := "ytplekbpmfaghbaagreatdoor", sum := "c6cc8e1f22aed1952452811861e8ca9bb4b3290e7fd3f7ab2bfcab8eefc7061f", func := "corollary/corollarylaw13.ArithEvals", spec := "arithEvals", inPlace := ["internal/bytealg.IndexByteString", "internal/bytealg.IndexString"], unfollowed := true, recurses := true, named := ["internal/bytealg.MaxLen", "corollary/lex.signs", "corollary/lex.keys", "strconv.ErrSyntax", "strconv.ErrRange", "internal/strconv.uint64pow10", "math/bits.deBruijn32tab", "math/bits.deBruijn64tab", "corollary/parse.aggs", "corollary/parse.signs"], loops := true, apart := false, laid := [("math/bits.deBruijn32tab", laid_math_bits_deBruijn32tab), ("math/bits.deBruijn64tab", laid_math_bits_deBruijn64tab), ("internal/strconv.uint64pow10", laid_internal_strconv_uint64pow10), ("strconv.ErrRange", laid_strconv_ErrRange), ("strconv.ErrSyntax", laid_strconv_ErrSyntax), ("corollary/lex.keys", laid_corollary_lex_keys), ("corollary/lex.signs", laid_corollary_lex_signs), ("corollary/parse.aggs", laid_corollary_parse_aggs), ("corollary/parse.signs", laid_corollary_parse_signs)] }
def ArithEvalsSaid : Prop := arithEvalsRow.holds Tryz.pinned (OpenSpec.ofChange arithEvalsSpec)

/-- ITS FALSE NEIGHBOUR: 'it returns false'. Refute it at one input. -/
def arithEvalsWrong : ChangeSpec := { name := "arithEvals", fn := fun _ => fun
  | [d1, d2] => { results := [.lit (.bool false)], args := [d1, d2] }
  | _ => none }
def ArithEvalsWrongFalsely : Prop := arithEvalsRow.holds Tryz.pinned (OpenSpec.ofChange arithEvalsWrong)

/-- 'corollarylaw06.ParseBlanks': WHATEVER THE INPUT: true; the input reads as it did. -/
def parseBlanksSpec : ChangeSpec := { name := "parseBlanks", fn := fun _ => fun
  | [d1, d2] => { results := [.lit (.bool true)], args := [d1, d2] }
  | _ => none }
def parseBlanksRow : OpenClaim := { program := "ytplekbpmfaghbaagreatdoor", sum := "c6cc8e1f22aed1952452811861e8ca9bb4b3290e7fd3f7ab2bfcab8eefc7061f", func := "corollary/corollarylaw06.ParseBlanks", spec := "parseBlanks", inPlace := ["internal/bytealg.IndexByteString", "internal/bytealg.IndexString"], unfollowed := true, recurses := true, named := ["internal/bytealg.MaxLen", "corollary/lex.signs", "corollary/lex.keys", "strconv.ErrSyntax", "strconv.ErrRange", "internal/strconv.uint64pow10", "math/bits.deBruijn32tab", "math/bits.deBruijn64tab", "corollary/parse.aggs", "corollary/parse.signs"], apart := false, laid := [("math/bits.deBruijn32tab", laid_math_bits_deBruijn32tab), ("math/bits.deBruijn64tab", laid_math_bits_deBruijn64tab), ("internal/strconv.uint64pow10", laid_internal_strconv_uint64pow10), ("strconv.ErrRange", laid_strconv_ErrRange), ("strconv.ErrSyntax", laid_strconv_ErrSyntax), ("corollary/lex.keys", laid_corollary_lex_keys), ("corollary/lex.signs", laid_corollary_lex_signs), ("corollary/parse.aggs", laid_corollary_parse_aggs), ("corollary/parse.signs", laid_corollary_parse_signs)] }
def ParseBlanksSaid : Prop := parseBlanksRow.holds Tryz.pinned (OpenSpec.ofChange parseBlanksSpec)

/-- ITS FALSE NEIGHBOUR: 'it returns false'. Refute it at one input. -/
def parseBlanksWrong : ChangeSpec := { name := "parseBlanks", fn := fun _ => fun
  | [d1, d2] => { results := [.lit (.bool false)], args := [d1, d2] }
  | _ => none }
def ParseBlanksWrongFalsely : Prop := parseBlanksRow.holds Tryz.pinned (OpenSpec.ofChange parseBlanksWrong)

/-- 'corollarylaw13.ArithHolds': WHATEVER THE INPUT: true; the input reads as it did. -/
def arithHoldsSpec : ChangeSpec := { name := "arithHolds", fn := fun _ => fun
  | [d1, d2, d3] => { results := [.lit (.bool true)], args := [d1, d2, d3] }
  | _ => none }
def arithHoldsRow : OpenClaim := { program := "ytplekbpmfaghbaagreatdoor", sum := "c6cc8e1f22aed1952452811861e8ca9bb4b3290e7fd3f7ab2bfcab8eefc7061f", func := "corollary/corollarylaw13.ArithHolds", spec := "arithHolds", inPlace := ["internal/bytealg.IndexByteString", "internal/bytealg.IndexString"], unfollowed := true, recurses := true, named := ["internal/bytealg.MaxLen", "corollary/lex.signs", "corollary/lex.keys", "strconv.ErrSyntax", "strconv.ErrRange", "internal/strconv.uint64pow10", "math/bits.deBruijn32tab", "math/bits.deBruijn64tab", "corollary/parse.aggs", "corollary/parse.signs"], apart := false, laid := [("math/bits.deBruijn32tab", laid_math_bits_deBruijn32tab), ("math/bits.deBruijn64tab", laid_math_bits_deBruijn64tab), ("internal/strconv.uint64pow10", laid_internal_strconv_uint64pow10), ("strconv.ErrRange", laid_strconv_ErrRange), ("strconv.ErrSyntax", laid_strconv_ErrSyntax), ("corollary/lex.keys", laid_corollary_lex_keys), ("corollary/lex.signs", laid_corollary_lex_signs), ("corollary/parse.aggs", laid_corollary_parse_aggs), ("corollary/parse.signs", laid_corollary_parse_signs)] }
def ArithHoldsSaid : Prop := arithHoldsRow.holds Tryz.pinned (OpenSpec.ofChange arithHoldsSpec)

/-- ITS FALSE NEIGHBOUR: 'it returns false'. Refute it at one input. -/
def arithHoldsWrong : ChangeSpec := { name := "arithHolds", fn := fun _ => fun
  | [d1, d2, d3] => { results := [.lit (.bool false)], args := [d1, d2, d3] }
  | _ => none }
def ArithHoldsWrongFalsely : Prop := arithHoldsRow.holds Tryz.pinned (OpenSpec.ofChange arithHoldsWrong)

/-- 'corollarylaw06.ParseFormed': WHATEVER THE INPUT: true; the input reads as it did. -/
def parseFormedSpec : ChangeSpec := { name := "parseFormed", fn := fun _ => fun
  | [d] => { results := [.lit (.bool true)], args := [d] }
  | _ => none }
def parseFormedRow : OpenClaim := { program := "ytplekbpmfaghbaagreatdoor", sum := "c6cc8e1f22aed1952452811861e8ca9bb4b3290e7fd3f7ab2bfcab8eefc7061f", func := "corollary/corollarylaw06.ParseFormed", spec := "parseFormed", inPlace := ["internal/bytealg.IndexByteString", "internal/bytealg.IndexString"], unfollowed := true, recurses := true, named := ["internal/bytealg.MaxLen", "corollary/lex.signs", "corollary/lex.keys", "strconv.ErrSyntax", "strconv.ErrRange", "internal/strconv.uint64pow10", "math/bits.deBruijn32tab", "math/bits.deBruijn64tab", "corollary/parse.aggs", "corollary/parse.signs"], apart := false, laid := [("math/bits.deBruijn32tab", laid_math_bits_deBruijn32tab), ("math/bits.deBruijn64tab", laid_math_bits_deBruijn64tab), ("internal/strconv.uint64pow10", laid_internal_strconv_uint64pow10), ("strconv.ErrRange", laid_strconv_ErrRange), ("strconv.ErrSyntax", laid_strconv_ErrSyntax), ("corollary/lex.keys", laid_corollary_lex_keys), ("corollary/lex.signs", laid_corollary_lex_signs), ("corollary/parse.aggs", laid_corollary_parse_aggs), ("corollary/parse.signs", laid_corollary_parse_signs)] }
def ParseFormedSaid : Prop := parseFormedRow.holds Tryz.pinned (OpenSpec.ofChange parseFormedSpec)

/-- ITS FALSE NEIGHBOUR: 'it returns false'. Refute it at one input. -/
def parseFormedWrong : ChangeSpec := { name := "parseFormed", fn := fun _ => fun
  | [d] => { results := [.lit (.bool false)], args := [d] }
  | _ => none }
def ParseFormedWrongFalsely : Prop := parseFormedRow.holds Tryz.pinned (OpenSpec.ofChange parseFormedWrong)

/-- 'corollarylaw13.ArithSolves': WHATEVER THE INPUT: true; the input reads as it did. -/
def arithSolvesSpec : ChangeSpec := { name := "arithSolves", fn := fun _ => fun
  | [d1, d2] => { results := [.lit (.bool true)], args := [d1, d2] }
  | _ => none }
def arithSolvesRow : OpenClaim := { program := "ytplekbpmfaghbaagreatdoor", sum := "c6cc8e1f22aed1952452811861e8ca9bb4b3290e7fd3f7ab2bfcab8eefc7061f", func := "corollary/corollarylaw13.ArithSolves", spec := "arithSolves", inPlace := ["internal/bytealg.IndexByteString", "internal/bytealg.IndexString"], unfollowed := true, recurses := true, named := ["internal/bytealg.MaxLen", "corollary/lex.signs", "corollary/lex.keys", "strconv.ErrSyntax", "strconv.ErrRange", "internal/strconv.uint64pow10", "math/bits.deBruijn32tab", "math/bits.deBruijn64tab", "corollary/parse.aggs", "corollary/parse.signs"], loops := true, apart := false, laid := [("math/bits.deBruijn32tab", laid_math_bits_deBruijn32tab), ("math/bits.deBruijn64tab", laid_math_bits_deBruijn64tab), ("internal/strconv.uint64pow10", laid_internal_strconv_uint64pow10), ("strconv.ErrRange", laid_strconv_ErrRange), ("strconv.ErrSyntax", laid_strconv_ErrSyntax), ("corollary/lex.keys", laid_corollary_lex_keys), ("corollary/lex.signs", laid_corollary_lex_signs), ("corollary/parse.aggs", laid_corollary_parse_aggs), ("corollary/parse.signs", laid_corollary_parse_signs)] }
def ArithSolvesSaid : Prop := arithSolvesRow.holds Tryz.pinned (OpenSpec.ofChange arithSolvesSpec)

/-- ITS FALSE NEIGHBOUR: 'it returns false'. Refute it at one input. -/
def arithSolvesWrong : ChangeSpec := { name := "arithSolves", fn := fun _ => fun
  | [d1, d2] => { results := [.lit (.bool false)], args := [d1, d2] }
  | _ => none }
def ArithSolvesWrongFalsely : Prop := arithSolvesRow.holds Tryz.pinned (OpenSpec.ofChange arithSolvesWrong)

/-- 'corollarylaw13.ArithWhole': WHATEVER THE INPUT: true; the input reads as it did. -/
def arithWholeSpec : ChangeSpec := { name := "arithWhole", fn := fun _ => fun
  | [d1, d2] => { results := [.lit (.bool true)], args := [d1, d2] }
  | _ => none }
def arithWholeRow : OpenClaim := { program := "ytplekbpmfaghbaagreatdoor", sum := "c6cc8e1f22aed1952452811861e8ca9bb4b3290e7fd3f7ab2bfcab8eefc7061f", func := "corollary/corollarylaw13.ArithWhole", spec := "arithWhole", inPlace := ["internal/bytealg.IndexByteString", "internal/bytealg.IndexString"], unfollowed := true, recurses := true, named := ["internal/bytealg.MaxLen", "corollary/lex.signs", "corollary/lex.keys", "strconv.ErrSyntax", "strconv.ErrRange", "internal/strconv.uint64pow10", "math/bits.deBruijn32tab", "math/bits.deBruijn64tab", "corollary/parse.aggs", "corollary/parse.signs"], loops := true, apart := false, laid := [("math/bits.deBruijn32tab", laid_math_bits_deBruijn32tab), ("math/bits.deBruijn64tab", laid_math_bits_deBruijn64tab), ("internal/strconv.uint64pow10", laid_internal_strconv_uint64pow10), ("strconv.ErrRange", laid_strconv_ErrRange), ("strconv.ErrSyntax", laid_strconv_ErrSyntax), ("corollary/lex.keys", laid_corollary_lex_keys), ("corollary/lex.signs", laid_corollary_lex_signs), ("corollary/parse.aggs", laid_corollary_parse_aggs), ("corollary/parse.signs", laid_corollary_parse_signs)] }
def ArithWholeSaid : Prop := arithWholeRow.holds Tryz.pinned (OpenSpec.ofChange arithWholeSpec)

/-- ITS FALSE NEIGHBOUR: 'it returns false'. Refute it at one input. -/
def arithWholeWrong : ChangeSpec := { name := "arithWhole", fn := fun _ => fun
  | [d1, d2] => { results := [.lit (.bool false)], args := [d1, d2] }
  | _ => none }
def ArithWholeWrongFalsely : Prop := arithWholeRow.holds Tryz.pinned (OpenSpec.ofChange arithWholeWrong)

/-- 'corollarylaw07.ShowTexts': WHATEVER THE INPUT: true; the input reads as it did. -/
def showTextsSpec : ChangeSpec := { name := "showTexts", fn := fun _ => fun
  | [d] => { results := [.lit (.bool true)], args := [d] }
  | _ => none }
def showTextsRow : OpenClaim := { program := "ytplekbpmfaghbaagreatdoor", sum := "c6cc8e1f22aed1952452811861e8ca9bb4b3290e7fd3f7ab2bfcab8eefc7061f", func := "corollary/corollarylaw07.ShowTexts", spec := "showTexts", inPlace := ["internal/bytealg.IndexByteString", "internal/bytealg.IndexString", "internal/abi.NoEscape", "internal/bytealg.MakeNoZero"], unfollowed := true, recurses := true, named := ["internal/bytealg.MaxLen", "corollary/lex.signs", "corollary/lex.keys", "strconv.ErrSyntax", "strconv.ErrRange", "internal/strconv.uint64pow10", "math/bits.deBruijn32tab", "math/bits.deBruijn64tab", "corollary/show.ops", "corollary/parse.aggs", "corollary/parse.signs", "corollary/show.aggs", "corollary/show.signs"], apart := false, laid := [("math/bits.deBruijn32tab", laid_math_bits_deBruijn32tab), ("math/bits.deBruijn64tab", laid_math_bits_deBruijn64tab), ("internal/strconv.uint64pow10", laid_internal_strconv_uint64pow10), ("strconv.ErrRange", laid_strconv_ErrRange), ("strconv.ErrSyntax", laid_strconv_ErrSyntax), ("corollary/lex.keys", laid_corollary_lex_keys), ("corollary/lex.signs", laid_corollary_lex_signs), ("corollary/parse.aggs", laid_corollary_parse_aggs), ("corollary/parse.signs", laid_corollary_parse_signs), ("corollary/show.aggs", laid_corollary_show_aggs), ("corollary/show.signs", laid_corollary_show_signs), ("corollary/show.ops", laid_corollary_show_ops)] }
def ShowTextsSaid : Prop := showTextsRow.holds Tryz.pinned (OpenSpec.ofChange showTextsSpec)

/-- ITS FALSE NEIGHBOUR: 'it returns false'. Refute it at one input. -/
def showTextsWrong : ChangeSpec := { name := "showTexts", fn := fun _ => fun
  | [d] => { results := [.lit (.bool false)], args := [d] }
  | _ => none }
def ShowTextsWrongFalsely : Prop := showTextsRow.holds Tryz.pinned (OpenSpec.ofChange showTextsWrong)

/- THE SECOND FORM. 'bulk': how many values and letters a reading holds, each counted each time it is reached (what is shared counts as often as it is met; a slice's spare places count too). A statement '..UptoSaid' is the law's where the arguments, and the package variables that the reading takes, are together of bulk at most 1048576: NARROWER than '..Said'. Prove '..Said' where nothing that the law and all that it calls make is longer than what came in: it says more and counts as full. Else prove '..UptoSaid'. A law counts once. -/
mutual
def uptoBulk {H : Type} : DataW H → Nat
  | .lit (.string bytes) => bytes.length + 1
  | .lit _ => 1
  | .nil => 1
  | .ptr d => uptoBulk d + 1
  | .slice elems spare => uptoBulkAll elems + uptoBulkAll spare + 1
  | .agg parts => uptoBulkAll parts + 1
  | .iface _ d => uptoBulk d + 1
  | .map entries => uptoBulkEntries entries + 1
  | .held _ => 1
def uptoBulkAll {H : Type} : List (DataW H) → Nat
  | [] => 0
  | d :: r => uptoBulk d + uptoBulkAll r
def uptoBulkEntries {H : Type} : List (Lit × DataW H) → Nat
  | [] => 0
  | x :: r => uptoBulkEntry x + uptoBulkEntries r
def uptoBulkEntry {H : Type} : Lit × DataW H → Nat
  | (.string bytes, d) => bytes.length + uptoBulk d + 1
  | (_, d) => uptoBulk d + 1
 end
def uptoSmall : (H : Type) → List (DataW H) → Bool := fun _ ds => decide (uptoBulkAll ds ≤ 1048576)
def OpenSpec.upto (s : _root_.Go.ChangeSpec) : _root_.Go.OpenSpec := { _root_.Go.OpenSpec.ofChange s with cond := some uptoSmall }

/-- 'corollarylaw07.ShowParts', WHERE WHAT IT READS IS OF BULK AT MOST 1048576: true; the input reads as it did. -/
def showPartsUptoRow : OpenClaim := { program := "ytplekbpmfaghbaagreatdoor", sum := "c6cc8e1f22aed1952452811861e8ca9bb4b3290e7fd3f7ab2bfcab8eefc7061f", func := "corollary/corollarylaw07.ShowParts", spec := "showParts", inPlace := ["internal/bytealg.IndexByteString", "internal/bytealg.IndexString", "internal/abi.NoEscape", "internal/bytealg.MakeNoZero"], unfollowed := true, recurses := true, named := ["internal/bytealg.MaxLen", "corollary/lex.signs", "corollary/lex.keys", "strconv.ErrSyntax", "strconv.ErrRange", "internal/strconv.uint64pow10", "math/bits.deBruijn32tab", "math/bits.deBruijn64tab", "corollary/show.ops", "corollary/show.aggs", "corollary/show.signs"], loops := true, apart := false, laid := [("math/bits.deBruijn32tab", laid_math_bits_deBruijn32tab), ("math/bits.deBruijn64tab", laid_math_bits_deBruijn64tab), ("internal/strconv.uint64pow10", laid_internal_strconv_uint64pow10), ("strconv.ErrRange", laid_strconv_ErrRange), ("strconv.ErrSyntax", laid_strconv_ErrSyntax), ("corollary/lex.keys", laid_corollary_lex_keys), ("corollary/lex.signs", laid_corollary_lex_signs), ("corollary/show.aggs", laid_corollary_show_aggs), ("corollary/show.signs", laid_corollary_show_signs), ("corollary/show.ops", laid_corollary_show_ops)], narrowed := true }
def ShowPartsUptoSaid : Prop := showPartsUptoRow.holds Tryz.pinned (OpenSpec.upto showPartsSpec)

/-- 'corollarylaw07.ShowPrograms', WHERE WHAT IT READS IS OF BULK AT MOST 1048576: true; the input reads as it did. -/
def showProgramsUptoRow : OpenClaim := { program := "ytplekbpmfaghbaagreatdoor", sum := "c6cc8e1f22aed1952452811861e8ca9bb4b3290e7fd3f7ab2bfcab8eefc7061f", func := "corollary/corollarylaw07.ShowPrograms", spec := "showPrograms", inPlace := ["internal/bytealg.IndexByteString", "internal/bytealg.IndexString", "internal/abi.NoEscape", "internal/bytealg.MakeNoZero"], unfollowed := true, recurses := true, named := ["internal/bytealg.MaxLen", "corollary/lex.signs", "corollary/lex.keys", "strconv.ErrSyntax", "strconv.ErrRange", "internal/strconv.uint64pow10", "math/bits.deBruijn32tab", "math/bits.deBruijn64tab", "corollary/show.ops", "corollary/show.aggs", "corollary/show.signs"], loops := true, apart := false, laid := [("math/bits.deBruijn32tab", laid_math_bits_deBruijn32tab), ("math/bits.deBruijn64tab", laid_math_bits_deBruijn64tab), ("internal/strconv.uint64pow10", laid_internal_strconv_uint64pow10), ("strconv.ErrRange", laid_strconv_ErrRange), ("strconv.ErrSyntax", laid_strconv_ErrSyntax), ("corollary/lex.keys", laid_corollary_lex_keys), ("corollary/lex.signs", laid_corollary_lex_signs), ("corollary/show.aggs", laid_corollary_show_aggs), ("corollary/show.signs", laid_corollary_show_signs), ("corollary/show.ops", laid_corollary_show_ops)], narrowed := true }
def ShowProgramsUptoSaid : Prop := showProgramsUptoRow.holds Tryz.pinned (OpenSpec.upto showProgramsSpec)

/-- 'corollarylaw13.ArithEvals', WHERE WHAT IT READS IS OF BULK AT MOST 1048576: true; the input reads as it did. -/
def arithEvalsUptoRow : OpenClaim := { program := "ytplekbpmfaghbaagreatdoor", sum := "c6cc8e1f22aed1952452811861e8ca9bb4b3290e7fd3f7ab2bfcab8eefc7061f", func := "corollary/corollarylaw13.ArithEvals", spec := "arithEvals", inPlace := ["internal/bytealg.IndexByteString", "internal/bytealg.IndexString"], unfollowed := true, recurses := true, named := ["internal/bytealg.MaxLen", "corollary/lex.signs", "corollary/lex.keys", "strconv.ErrSyntax", "strconv.ErrRange", "internal/strconv.uint64pow10", "math/bits.deBruijn32tab", "math/bits.deBruijn64tab", "corollary/parse.aggs", "corollary/parse.signs"], loops := true, apart := false, laid := [("math/bits.deBruijn32tab", laid_math_bits_deBruijn32tab), ("math/bits.deBruijn64tab", laid_math_bits_deBruijn64tab), ("internal/strconv.uint64pow10", laid_internal_strconv_uint64pow10), ("strconv.ErrRange", laid_strconv_ErrRange), ("strconv.ErrSyntax", laid_strconv_ErrSyntax), ("corollary/lex.keys", laid_corollary_lex_keys), ("corollary/lex.signs", laid_corollary_lex_signs), ("corollary/parse.aggs", laid_corollary_parse_aggs), ("corollary/parse.signs", laid_corollary_parse_signs)], narrowed := true }
def ArithEvalsUptoSaid : Prop := arithEvalsUptoRow.holds Tryz.pinned (OpenSpec.upto arithEvalsSpec)

/-- 'corollarylaw06.ParseBlanks', WHERE WHAT IT READS IS OF BULK AT MOST 1048576: true; the input reads as it did. -/
def parseBlanksUptoRow : OpenClaim := { program := "ytplekbpmfaghbaagreatdoor", sum := "c6cc8e1f22aed1952452811861e8ca9bb4b3290e7fd3f7ab2bfcab8eefc7061f", func := "corollary/corollarylaw06.ParseBlanks", spec := "parseBlanks", inPlace := ["internal/bytealg.IndexByteString", "internal/bytealg.IndexString"], unfollowed := true, recurses := true, named := ["internal/bytealg.MaxLen", "corollary/lex.signs", "corollary/lex.keys", "strconv.ErrSyntax", "strconv.ErrRange", "internal/strconv.uint64pow10", "math/bits.deBruijn32tab", "math/bits.deBruijn64tab", "corollary/parse.aggs", "corollary/parse.signs"], apart := false, laid := [("math/bits.deBruijn32tab", laid_math_bits_deBruijn32tab), ("math/bits.deBruijn64tab", laid_math_bits_deBruijn64tab), ("internal/strconv.uint64pow10", laid_internal_strconv_uint64pow10), ("strconv.ErrRange", laid_strconv_ErrRange), ("strconv.ErrSyntax", laid_strconv_ErrSyntax), ("corollary/lex.keys", laid_corollary_lex_keys), ("corollary/lex.signs", laid_corollary_lex_signs), ("corollary/parse.aggs", laid_corollary_parse_aggs), ("corollary/parse.signs", laid_corollary_parse_signs)], narrowed := true }
def ParseBlanksUptoSaid : Prop := parseBlanksUptoRow.holds Tryz.pinned (OpenSpec.upto parseBlanksSpec)

/-- 'corollarylaw13.ArithHolds', WHERE WHAT IT READS IS OF BULK AT MOST 1048576: true; the input reads as it did. -/
def arithHoldsUptoRow : OpenClaim := { program := "ytplekbpmfaghbaagreatdoor", sum := "c6cc8e1f22aed1952452811861e8ca9bb4b3290e7fd3f7ab2bfcab8eefc7061f", func := "corollary/corollarylaw13.ArithHolds", spec := "arithHolds", inPlace := ["internal/bytealg.IndexByteString", "internal/bytealg.IndexString"], unfollowed := true, recurses := true, named := ["internal/bytealg.MaxLen", "corollary/lex.signs", "corollary/lex.keys", "strconv.ErrSyntax", "strconv.ErrRange", "internal/strconv.uint64pow10", "math/bits.deBruijn32tab", "math/bits.deBruijn64tab", "corollary/parse.aggs", "corollary/parse.signs"], apart := false, laid := [("math/bits.deBruijn32tab", laid_math_bits_deBruijn32tab), ("math/bits.deBruijn64tab", laid_math_bits_deBruijn64tab), ("internal/strconv.uint64pow10", laid_internal_strconv_uint64pow10), ("strconv.ErrRange", laid_strconv_ErrRange), ("strconv.ErrSyntax", laid_strconv_ErrSyntax), ("corollary/lex.keys", laid_corollary_lex_keys), ("corollary/lex.signs", laid_corollary_lex_signs), ("corollary/parse.aggs", laid_corollary_parse_aggs), ("corollary/parse.signs", laid_corollary_parse_signs)], narrowed := true }
def ArithHoldsUptoSaid : Prop := arithHoldsUptoRow.holds Tryz.pinned (OpenSpec.upto arithHoldsSpec)

/-- 'corollarylaw06.ParseFormed', WHERE WHAT IT READS IS OF BULK AT MOST 1048576: true; the input reads as it did. -/
def parseFormedUptoRow : OpenClaim := { program := "ytplekbpmfaghbaagreatdoor", sum := "c6cc8e1f22aed1952452811861e8ca9bb4b3290e7fd3f7ab2bfcab8eefc7061f", func := "corollary/corollarylaw06.ParseFormed", spec := "parseFormed", inPlace := ["internal/bytealg.IndexByteString", "internal/bytealg.IndexString"], unfollowed := true, recurses := true, named := ["internal/bytealg.MaxLen", "corollary/lex.signs", "corollary/lex.keys", "strconv.ErrSyntax", "strconv.ErrRange", "internal/strconv.uint64pow10", "math/bits.deBruijn32tab", "math/bits.deBruijn64tab", "corollary/parse.aggs", "corollary/parse.signs"], apart := false, laid := [("math/bits.deBruijn32tab", laid_math_bits_deBruijn32tab), ("math/bits.deBruijn64tab", laid_math_bits_deBruijn64tab), ("internal/strconv.uint64pow10", laid_internal_strconv_uint64pow10), ("strconv.ErrRange", laid_strconv_ErrRange), ("strconv.ErrSyntax", laid_strconv_ErrSyntax), ("corollary/lex.keys", laid_corollary_lex_keys), ("corollary/lex.signs", laid_corollary_lex_signs), ("corollary/parse.aggs", laid_corollary_parse_aggs), ("corollary/parse.signs", laid_corollary_parse_signs)], narrowed := true }
def ParseFormedUptoSaid : Prop := parseFormedUptoRow.holds Tryz.pinned (OpenSpec.upto parseFormedSpec)

/-- 'corollarylaw13.ArithSolves', WHERE WHAT IT READS IS OF BULK AT MOST 1048576: true; the input reads as it did. -/
def arithSolvesUptoRow : OpenClaim := { program := "ytplekbpmfaghbaagreatdoor", sum := "c6cc8e1f22aed1952452811861e8ca9bb4b3290e7fd3f7ab2bfcab8eefc7061f", func := "corollary/corollarylaw13.ArithSolves", spec := "arithSolves", inPlace := ["internal/bytealg.IndexByteString", "internal/bytealg.IndexString"], unfollowed := true, recurses := true, named := ["internal/bytealg.MaxLen", "corollary/lex.signs", "corollary/lex.keys", "strconv.ErrSyntax", "strconv.ErrRange", "internal/strconv.uint64pow10", "math/bits.deBruijn32tab", "math/bits.deBruijn64tab", "corollary/parse.aggs", "corollary/parse.signs"], loops := true, apart := false, laid := [("math/bits.deBruijn32tab", laid_math_bits_deBruijn32tab), ("math/bits.deBruijn64tab", laid_math_bits_deBruijn64tab), ("internal/strconv.uint64pow10", laid_internal_strconv_uint64pow10), ("strconv.ErrRange", laid_strconv_ErrRange), ("strconv.ErrSyntax", laid_strconv_ErrSyntax), ("corollary/lex.keys", laid_corollary_lex_keys), ("corollary/lex.signs", laid_corollary_lex_signs), ("corollary/parse.aggs", laid_corollary_parse_aggs), ("corollary/parse.signs", laid_corollary_parse_signs)], narrowed := true }
def ArithSolvesUptoSaid : Prop := arithSolvesUptoRow.holds Tryz.pinned (OpenSpec.upto arithSolvesSpec)

/-- 'corollarylaw13.ArithWhole', WHERE WHAT IT READS IS OF BULK AT MOST 1048576: true; the input reads as it did. -/
def arithWholeUptoRow : OpenClaim := { program := "ytplekbpmfaghbaagreatdoor", sum := "c6cc8e1f22aed1952452811861e8ca9bb4b3290e7fd3f7ab2bfcab8eefc7061f", func := "corollary/corollarylaw13.ArithWhole", spec := "arithWhole", inPlace := ["internal/bytealg.IndexByteString", "internal/bytealg.IndexString"], unfollowed := true, recurses := true, named := ["internal/bytealg.MaxLen", "corollary/lex.signs", "corollary/lex.keys", "strconv.ErrSyntax", "strconv.ErrRange", "internal/strconv.uint64pow10", "math/bits.deBruijn32tab", "math/bits.deBruijn64tab", "corollary/parse.aggs", "corollary/parse.signs"], loops := true, apart := false, laid := [("math/bits.deBruijn32tab", laid_math_bits_deBruijn32tab), ("math/bits.deBruijn64tab", laid_math_bits_deBruijn64tab), ("internal/strconv.uint64pow10", laid_internal_strconv_uint64pow10), ("strconv.ErrRange", laid_strconv_ErrRange), ("strconv.ErrSyntax", laid_strconv_ErrSyntax), ("corollary/lex.keys", laid_corollary_lex_keys), ("corollary/lex.signs", laid_corollary_lex_signs), ("corollary/parse.aggs", laid_corollary_parse_aggs), ("corollary/parse.signs", laid_corollary_parse_signs)], narrowed := true }
def ArithWholeUptoSaid : Prop := arithWholeUptoRow.holds Tryz.pinned (OpenSpec.upto arithWholeSpec)

/-- 'corollarylaw07.ShowTexts', WHERE WHAT IT READS IS OF BULK AT MOST 1048576: true; the input reads as it did. -/
def showTextsUptoRow : OpenClaim := { program := "ytplekbpmfaghbaagreatdoor", sum := "c6cc8e1f22aed1952452811861e8ca9bb4b3290e7fd3f7ab2bfcab8eefc7061f", func := "corollary/corollarylaw07.ShowTexts", spec := "showTexts", inPlace := ["internal/bytealg.IndexByteString", "internal/bytealg.IndexString", "internal/abi.NoEscape", "internal/bytealg.MakeNoZero"], unfollowed := true, recurses := true, named := ["internal/bytealg.MaxLen", "corollary/lex.signs", "corollary/lex.keys", "strconv.ErrSyntax", "strconv.ErrRange", "internal/strconv.uint64pow10", "math/bits.deBruijn32tab", "math/bits.deBruijn64tab", "corollary/show.ops", "corollary/parse.aggs", "corollary/parse.signs", "corollary/show.aggs", "corollary/show.signs"], apart := false, laid := [("math/bits.deBruijn32tab", laid_math_bits_deBruijn32tab), ("math/bits.deBruijn64tab", laid_math_bits_deBruijn64tab), ("internal/strconv.uint64pow10", laid_internal_strconv_uint64pow10), ("strconv.ErrRange", laid_strconv_ErrRange), ("strconv.ErrSyntax", laid_strconv_ErrSyntax), ("corollary/lex.keys", laid_corollary_lex_keys), ("corollary/lex.signs", laid_corollary_lex_signs), ("corollary/parse.aggs", laid_corollary_parse_aggs), ("corollary/parse.signs", laid_corollary_parse_signs), ("corollary/show.aggs", laid_corollary_show_aggs), ("corollary/show.signs", laid_corollary_show_signs), ("corollary/show.ops", laid_corollary_show_ops)], narrowed := true }
def ShowTextsUptoSaid : Prop := showTextsUptoRow.holds Tryz.pinned (OpenSpec.upto showTextsSpec)

end Rows
end Go.Proofs.YtplekbpmfaghbaaGreatDoor
