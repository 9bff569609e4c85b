/-
  DERIVED. GIVEN WITH THE SEED: THE CARDS: each row of YtplekbpmfaghbaaGreatDoorRows.lean that lists a variable, with what it lists TIED to the program's text (the seventh form; the later family's looks); each row that meets fmt, with fmt's text TOLD by the authors' own Lean function (tested against real Go, not proved from fmt's source: count such statements apart). THE CARD IS WHAT COUNTS. Prove the row's statement (the work); the ties are given (YtplekbpmfaghbaaGreatDoorTie.lean); close each card by the builder's one call (the guide's Derived/Test/ToyasCard.lean, 'card_holds'). Laid BY PROGRAM, IN A SANDBOX (cutbox-door.mjs). By AI agents, Wed Nov 11 2026. No macro, syntax, notation, axiom, sorry.
-/
import Derived.Test.YtplekbpmfaghbaaGreatDoorRows
import GoSem.ClaimSeven
namespace Go.Proofs.YtplekbpmfaghbaaGreatDoor
namespace Rows

/-- THE TIED CARD OF 'corollarylaw07.ShowParts'. -/
def showPartsCard : Claim7 := { stood := { row := showPartsRow, standIns := [], harness := (true, "996b141e1e2928b54879dd43fbcc53f2c18a1e828e19487da7d25295f60c7fc9"), looks := true }, kinds := [], alts := [], laidByText := true, laidKinds := [.data, .data, .data, .sentinel, .sentinel, .widerDeep, .data, .data, .data, .data], laidTests := true, laidLooks := .later }
def ShowPartsCardSaid : Prop := Claim7.holds Tryz.pinned (.plain (OpenSpec.ofChange showPartsSpec)) showPartsCard

/-- THE TIED CARD OF 'corollarylaw07.ShowPrograms'. -/
def showProgramsCard : Claim7 := { stood := { row := showProgramsRow, standIns := [], harness := (true, "996b141e1e2928b54879dd43fbcc53f2c18a1e828e19487da7d25295f60c7fc9"), looks := true }, kinds := [], alts := [], laidByText := true, laidKinds := [.data, .data, .data, .sentinel, .sentinel, .widerDeep, .data, .data, .data, .data], laidTests := true, laidLooks := .later }
def ShowProgramsCardSaid : Prop := Claim7.holds Tryz.pinned (.plain (OpenSpec.ofChange showProgramsSpec)) showProgramsCard

/-- THE TIED CARD OF 'corollarylaw13.ArithEvals'. -/
def arithEvalsCard : Claim7 := { stood := { row := arithEvalsRow, standIns := [], harness := (true, "996b141e1e2928b54879dd43fbcc53f2c18a1e828e19487da7d25295f60c7fc9"), looks := true }, kinds := [], alts := [], laidByText := true, laidKinds := [.data, .data, .data, .sentinel, .sentinel, .widerDeep, .data, .widerDeep, .widerDeep], laidTests := true, laidLooks := .later }
def ArithEvalsCardSaid : Prop := Claim7.holds Tryz.pinned (.plain (OpenSpec.ofChange arithEvalsSpec)) arithEvalsCard

/-- THE TIED CARD OF 'corollarylaw06.ParseBlanks'. -/
def parseBlanksCard : Claim7 := { stood := { row := parseBlanksRow, standIns := [], harness := (true, "996b141e1e2928b54879dd43fbcc53f2c18a1e828e19487da7d25295f60c7fc9"), looks := true }, kinds := [], alts := [], laidByText := true, laidKinds := [.data, .data, .data, .sentinel, .sentinel, .widerDeep, .data, .widerDeep, .widerDeep], laidTests := true, laidLooks := .later }
def ParseBlanksCardSaid : Prop := Claim7.holds Tryz.pinned (.plain (OpenSpec.ofChange parseBlanksSpec)) parseBlanksCard

/-- THE TIED CARD OF 'corollarylaw13.ArithHolds'. -/
def arithHoldsCard : Claim7 := { stood := { row := arithHoldsRow, standIns := [], harness := (true, "996b141e1e2928b54879dd43fbcc53f2c18a1e828e19487da7d25295f60c7fc9"), looks := true }, kinds := [], alts := [], laidByText := true, laidKinds := [.data, .data, .data, .sentinel, .sentinel, .widerDeep, .data, .widerDeep, .widerDeep], laidTests := true, laidLooks := .later }
def ArithHoldsCardSaid : Prop := Claim7.holds Tryz.pinned (.plain (OpenSpec.ofChange arithHoldsSpec)) arithHoldsCard

/-- THE TIED CARD OF 'corollarylaw06.ParseFormed'. -/
def parseFormedCard : Claim7 := { stood := { row := parseFormedRow, standIns := [], harness := (true, "996b141e1e2928b54879dd43fbcc53f2c18a1e828e19487da7d25295f60c7fc9"), looks := true }, kinds := [], alts := [], laidByText := true, laidKinds := [.data, .data, .data, .sentinel, .sentinel, .widerDeep, .data, .widerDeep, .widerDeep], laidTests := true, laidLooks := .later }
def ParseFormedCardSaid : Prop := Claim7.holds Tryz.pinned (.plain (OpenSpec.ofChange parseFormedSpec)) parseFormedCard

/-- THE TIED CARD OF 'corollarylaw13.ArithSolves'. -/
def arithSolvesCard : Claim7 := { stood := { row := arithSolvesRow, standIns := [], harness := (true, "996b141e1e2928b54879dd43fbcc53f2c18a1e828e19487da7d25295f60c7fc9"), looks := true }, kinds := [], alts := [], laidByText := true, laidKinds := [.data, .data, .data, .sentinel, .sentinel, .widerDeep, .data, .widerDeep, .widerDeep], laidTests := true, laidLooks := .later }
def ArithSolvesCardSaid : Prop := Claim7.holds Tryz.pinned (.plain (OpenSpec.ofChange arithSolvesSpec)) arithSolvesCard

/-- THE TIED CARD OF 'corollarylaw13.ArithWhole'. -/
def arithWholeCard : Claim7 := { stood := { row := arithWholeRow, standIns := [], harness := (true, "996b141e1e2928b54879dd43fbcc53f2c18a1e828e19487da7d25295f60c7fc9"), looks := true }, kinds := [], alts := [], laidByText := true, laidKinds := [.data, .data, .data, .sentinel, .sentinel, .widerDeep, .data, .widerDeep, .widerDeep], laidTests := true, laidLooks := .later }
def ArithWholeCardSaid : Prop := Claim7.holds Tryz.pinned (.plain (OpenSpec.ofChange arithWholeSpec)) arithWholeCard

/-- THE TIED CARD OF 'corollarylaw07.ShowTexts'. -/
def showTextsCard : Claim7 := { stood := { row := showTextsRow, standIns := [], harness := (true, "996b141e1e2928b54879dd43fbcc53f2c18a1e828e19487da7d25295f60c7fc9"), looks := true }, kinds := [], alts := [], laidByText := true, laidKinds := [.data, .data, .data, .sentinel, .sentinel, .widerDeep, .data, .widerDeep, .widerDeep, .data, .data, .data], laidTests := true, laidLooks := .later }
def ShowTextsCardSaid : Prop := Claim7.holds Tryz.pinned (.plain (OpenSpec.ofChange showTextsSpec)) showTextsCard

/-- THE SECOND FORM's CARD OF 'corollarylaw07.ShowParts'. -/
def showPartsUptoCard : Claim7 := { stood := { row := showPartsUptoRow, standIns := [], harness := (true, "996b141e1e2928b54879dd43fbcc53f2c18a1e828e19487da7d25295f60c7fc9"), looks := true }, kinds := [], alts := [], laidByText := true, laidKinds := [.data, .data, .data, .sentinel, .sentinel, .widerDeep, .data, .data, .data, .data], laidTests := true, laidLooks := .later }
def ShowPartsUptoCardSaid : Prop := Claim7.holds Tryz.pinned (.plain (OpenSpec.upto showPartsSpec)) showPartsUptoCard

/-- THE SECOND FORM's CARD OF 'corollarylaw07.ShowPrograms'. -/
def showProgramsUptoCard : Claim7 := { stood := { row := showProgramsUptoRow, standIns := [], harness := (true, "996b141e1e2928b54879dd43fbcc53f2c18a1e828e19487da7d25295f60c7fc9"), looks := true }, kinds := [], alts := [], laidByText := true, laidKinds := [.data, .data, .data, .sentinel, .sentinel, .widerDeep, .data, .data, .data, .data], laidTests := true, laidLooks := .later }
def ShowProgramsUptoCardSaid : Prop := Claim7.holds Tryz.pinned (.plain (OpenSpec.upto showProgramsSpec)) showProgramsUptoCard

/-- THE SECOND FORM's CARD OF 'corollarylaw13.ArithEvals'. -/
def arithEvalsUptoCard : Claim7 := { stood := { row := arithEvalsUptoRow, standIns := [], harness := (true, "996b141e1e2928b54879dd43fbcc53f2c18a1e828e19487da7d25295f60c7fc9"), looks := true }, kinds := [], alts := [], laidByText := true, laidKinds := [.data, .data, .data, .sentinel, .sentinel, .widerDeep, .data, .widerDeep, .widerDeep], laidTests := true, laidLooks := .later }
def ArithEvalsUptoCardSaid : Prop := Claim7.holds Tryz.pinned (.plain (OpenSpec.upto arithEvalsSpec)) arithEvalsUptoCard

/-- THE SECOND FORM's CARD OF 'corollarylaw06.ParseBlanks'. -/
def parseBlanksUptoCard : Claim7 := { stood := { row := parseBlanksUptoRow, standIns := [], harness := (true, "996b141e1e2928b54879dd43fbcc53f2c18a1e828e19487da7d25295f60c7fc9"), looks := true }, kinds := [], alts := [], laidByText := true, laidKinds := [.data, .data, .data, .sentinel, .sentinel, .widerDeep, .data, .widerDeep, .widerDeep], laidTests := true, laidLooks := .later }
def ParseBlanksUptoCardSaid : Prop := Claim7.holds Tryz.pinned (.plain (OpenSpec.upto parseBlanksSpec)) parseBlanksUptoCard

/-- THE SECOND FORM's CARD OF 'corollarylaw13.ArithHolds'. -/
def arithHoldsUptoCard : Claim7 := { stood := { row := arithHoldsUptoRow, standIns := [], harness := (true, "996b141e1e2928b54879dd43fbcc53f2c18a1e828e19487da7d25295f60c7fc9"), looks := true }, kinds := [], alts := [], laidByText := true, laidKinds := [.data, .data, .data, .sentinel, .sentinel, .widerDeep, .data, .widerDeep, .widerDeep], laidTests := true, laidLooks := .later }
def ArithHoldsUptoCardSaid : Prop := Claim7.holds Tryz.pinned (.plain (OpenSpec.upto arithHoldsSpec)) arithHoldsUptoCard

/-- THE SECOND FORM's CARD OF 'corollarylaw06.ParseFormed'. -/
def parseFormedUptoCard : Claim7 := { stood := { row := parseFormedUptoRow, standIns := [], harness := (true, "996b141e1e2928b54879dd43fbcc53f2c18a1e828e19487da7d25295f60c7fc9"), looks := true }, kinds := [], alts := [], laidByText := true, laidKinds := [.data, .data, .data, .sentinel, .sentinel, .widerDeep, .data, .widerDeep, .widerDeep], laidTests := true, laidLooks := .later }
def ParseFormedUptoCardSaid : Prop := Claim7.holds Tryz.pinned (.plain (OpenSpec.upto parseFormedSpec)) parseFormedUptoCard

/-- THE SECOND FORM's CARD OF 'corollarylaw13.ArithSolves'. -/
def arithSolvesUptoCard : Claim7 := { stood := { row := arithSolvesUptoRow, standIns := [], harness := (true, "996b141e1e2928b54879dd43fbcc53f2c18a1e828e19487da7d25295f60c7fc9"), looks := true }, kinds := [], alts := [], laidByText := true, laidKinds := [.data, .data, .data, .sentinel, .sentinel, .widerDeep, .data, .widerDeep, .widerDeep], laidTests := true, laidLooks := .later }
def ArithSolvesUptoCardSaid : Prop := Claim7.holds Tryz.pinned (.plain (OpenSpec.upto arithSolvesSpec)) arithSolvesUptoCard

/-- THE SECOND FORM's CARD OF 'corollarylaw13.ArithWhole'. -/
def arithWholeUptoCard : Claim7 := { stood := { row := arithWholeUptoRow, standIns := [], harness := (true, "996b141e1e2928b54879dd43fbcc53f2c18a1e828e19487da7d25295f60c7fc9"), looks := true }, kinds := [], alts := [], laidByText := true, laidKinds := [.data, .data, .data, .sentinel, .sentinel, .widerDeep, .data, .widerDeep, .widerDeep], laidTests := true, laidLooks := .later }
def ArithWholeUptoCardSaid : Prop := Claim7.holds Tryz.pinned (.plain (OpenSpec.upto arithWholeSpec)) arithWholeUptoCard

/-- THE SECOND FORM's CARD OF 'corollarylaw07.ShowTexts'. -/
def showTextsUptoCard : Claim7 := { stood := { row := showTextsUptoRow, standIns := [], harness := (true, "996b141e1e2928b54879dd43fbcc53f2c18a1e828e19487da7d25295f60c7fc9"), looks := true }, kinds := [], alts := [], laidByText := true, laidKinds := [.data, .data, .data, .sentinel, .sentinel, .widerDeep, .data, .widerDeep, .widerDeep, .data, .data, .data], laidTests := true, laidLooks := .later }
def ShowTextsUptoCardSaid : Prop := Claim7.holds Tryz.pinned (.plain (OpenSpec.upto showTextsSpec)) showTextsUptoCard
end Rows
end Go.Proofs.YtplekbpmfaghbaaGreatDoor
