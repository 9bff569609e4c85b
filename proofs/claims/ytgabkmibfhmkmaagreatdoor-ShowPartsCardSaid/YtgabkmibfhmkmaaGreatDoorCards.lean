/-
  DERIVED. GIVEN WITH THE SEED: THE CARDS: each row of YtgabkmibfhmkmaaGreatDoorRows.lean that lists a variable, with what it lists TIED to the program's text (the seventh form; the later family's looks); each row that meets fmt, with fmt's text TOLD by the authors' own Lean function (tested against real Go, not proved from fmt's source: count such statements apart). THE CARD IS WHAT COUNTS. Prove the row's statement (the work); the ties are given (YtgabkmibfhmkmaaGreatDoorTie.lean); close each card by the builder's one call (the guide's Derived/Test/ToyasCard.lean, 'card_holds'). Laid BY PROGRAM, IN A SANDBOX (cutbox-door.mjs). By AI agents, Wed Nov 11 2026. No macro, syntax, notation, axiom, sorry.
-/
import Derived.Test.YtgabkmibfhmkmaaGreatDoorRows
import GoSem.ClaimSeven
namespace Go.Proofs.YtgabkmibfhmkmaaGreatDoor
namespace Rows

/-- THE TIED CARD OF 'corollarylaw13.ArithSolves'. -/
def arithSolvesCard : Claim7 := { stood := { row := arithSolvesRow, standIns := [], harness := (true, "d3bf363e3397618ac5f6ef62b1775c41fcd5f7fa43fb9b4df9f66bf4f3d62607"), looks := true }, kinds := [], alts := [], laidByText := true, laidKinds := [.data, .data, .data, .sentinel, .sentinel, .widerDeep, .data, .widerDeep, .widerDeep], laidTests := true, laidLooks := .later }
def ArithSolvesCardSaid : Prop := Claim7.holds Tryz.pinned (.plain (OpenSpec.ofChange arithSolvesSpec)) arithSolvesCard

/-- THE TIED CARD OF 'corollarylaw07.ShowParts'. -/
def showPartsCard : Claim7 := { stood := { row := showPartsRow, standIns := [], harness := (true, "d3bf363e3397618ac5f6ef62b1775c41fcd5f7fa43fb9b4df9f66bf4f3d62607"), looks := true }, kinds := [], alts := [], laidByText := true, laidKinds := [.data, .data, .data, .sentinel, .sentinel, .widerDeep, .data, .data, .data, .data], laidTests := true, laidLooks := .later }
def ShowPartsCardSaid : Prop := Claim7.holds Tryz.pinned (.plain (OpenSpec.ofChange showPartsSpec)) showPartsCard

/-- THE TIED CARD OF 'corollarylaw05.TermFormed'. -/
def termFormedCard : Claim7 := { stood := { row := termFormedRow, standIns := [], harness := (true, "d3bf363e3397618ac5f6ef62b1775c41fcd5f7fa43fb9b4df9f66bf4f3d62607"), looks := true }, kinds := [], alts := [], laidByText := true, laidKinds := [.data, .data, .data, .sentinel, .sentinel, .widerDeep, .data], laidTests := true, laidLooks := .later }
def TermFormedCardSaid : Prop := Claim7.holds Tryz.pinned (.plain (OpenSpec.ofChange termFormedSpec)) termFormedCard

/-- THE TIED CARD OF 'corollarylaw09.SafeOrders'. -/
def safeOrdersCard : Claim7 := { stood := { row := safeOrdersRow, standIns := [], harness := (true, "d3bf363e3397618ac5f6ef62b1775c41fcd5f7fa43fb9b4df9f66bf4f3d62607"), looks := true }, kinds := [], alts := [], laidByText := true, laidKinds := [.data, .data, .data, .sentinel, .sentinel, .widerDeep, .data, .widerDeep, .widerDeep], laidTests := true, laidLooks := .later }
def SafeOrdersCardSaid : Prop := Claim7.holds Tryz.pinned (.plain (OpenSpec.ofChange safeOrdersSpec)) safeOrdersCard

/-- THE TIED CARD OF 'corollarylaw09.SafeWhole'. -/
def safeWholeCard : Claim7 := { stood := { row := safeWholeRow, standIns := [], harness := (true, "d3bf363e3397618ac5f6ef62b1775c41fcd5f7fa43fb9b4df9f66bf4f3d62607"), looks := true }, kinds := [], alts := [], laidByText := true, laidKinds := [.data, .data, .data, .sentinel, .sentinel, .widerDeep, .data, .widerDeep, .widerDeep], laidTests := true, laidLooks := .later }
def SafeWholeCardSaid : Prop := Claim7.holds Tryz.pinned (.plain (OpenSpec.ofChange safeWholeSpec)) safeWholeCard

/-- THE TIED CARD OF 'corollarylaw09.SafeChecks'. -/
def safeChecksCard : Claim7 := { stood := { row := safeChecksRow, standIns := [], harness := (true, "d3bf363e3397618ac5f6ef62b1775c41fcd5f7fa43fb9b4df9f66bf4f3d62607"), looks := true }, kinds := [], alts := [], laidByText := true, laidKinds := [.data, .data, .data, .sentinel, .sentinel, .widerDeep, .data, .widerDeep, .widerDeep], laidTests := true, laidLooks := .later }
def SafeChecksCardSaid : Prop := Claim7.holds Tryz.pinned (.plain (OpenSpec.ofChange safeChecksSpec)) safeChecksCard

/-- THE TIED CARD OF 'corollarylaw08.TypesTexts'. -/
def typesTextsCard : Claim7 := { stood := { row := typesTextsRow, standIns := [], harness := (true, "d3bf363e3397618ac5f6ef62b1775c41fcd5f7fa43fb9b4df9f66bf4f3d62607"), looks := true }, kinds := [], alts := [], laidByText := true, laidKinds := [.data, .data, .data, .sentinel, .sentinel, .widerDeep, .data, .widerDeep, .widerDeep], laidTests := true, laidLooks := .later }
def TypesTextsCardSaid : Prop := Claim7.holds Tryz.pinned (.plain (OpenSpec.ofChange typesTextsSpec)) typesTextsCard

/-- THE TIED CARD OF 'corollarylaw08.TypesChecks'. -/
def typesChecksCard : Claim7 := { stood := { row := typesChecksRow, standIns := [], harness := (true, "d3bf363e3397618ac5f6ef62b1775c41fcd5f7fa43fb9b4df9f66bf4f3d62607"), looks := true }, kinds := [], alts := [], laidByText := true, laidKinds := [.data, .data, .data, .sentinel, .sentinel, .widerDeep, .data, .widerDeep, .widerDeep], laidTests := true, laidLooks := .later }
def TypesChecksCardSaid : Prop := Claim7.holds Tryz.pinned (.plain (OpenSpec.ofChange typesChecksSpec)) typesChecksCard

/-- THE TIED CARD OF 'corollarylaw08.TypesFits'. -/
def typesFitsCard : Claim7 := { stood := { row := typesFitsRow, standIns := [], harness := (true, "d3bf363e3397618ac5f6ef62b1775c41fcd5f7fa43fb9b4df9f66bf4f3d62607"), looks := true }, kinds := [], alts := [], laidByText := true, laidKinds := [.data, .data, .data, .sentinel, .sentinel, .widerDeep, .data, .widerDeep, .widerDeep], laidTests := true, laidLooks := .later }
def TypesFitsCardSaid : Prop := Claim7.holds Tryz.pinned (.plain (OpenSpec.ofChange typesFitsSpec)) typesFitsCard

/-- THE TIED CARD OF 'corollarylaw10.DepsPrograms'. -/
def depsProgramsCard : Claim7 := { stood := { row := depsProgramsRow, standIns := [], harness := (true, "d3bf363e3397618ac5f6ef62b1775c41fcd5f7fa43fb9b4df9f66bf4f3d62607"), looks := true }, kinds := [], alts := [], laidByText := true, laidKinds := [.data, .data, .data, .sentinel, .sentinel, .widerDeep, .data, .widerDeep, .widerDeep], laidTests := true, laidLooks := .later }
def DepsProgramsCardSaid : Prop := Claim7.holds Tryz.pinned (.plain (OpenSpec.ofChange depsProgramsSpec)) depsProgramsCard

/-- THE TIED CARD OF 'corollarylaw10.DepsGraphs'. -/
def depsGraphsCard : Claim7 := { stood := { row := depsGraphsRow, standIns := [], harness := (true, "d3bf363e3397618ac5f6ef62b1775c41fcd5f7fa43fb9b4df9f66bf4f3d62607"), looks := true }, kinds := [], alts := [], laidByText := true, laidKinds := [.data, .data, .data, .sentinel, .sentinel, .widerDeep, .data, .widerDeep, .widerDeep], laidTests := true, laidLooks := .later }
def DepsGraphsCardSaid : Prop := Claim7.holds Tryz.pinned (.plain (OpenSpec.ofChange depsGraphsSpec)) depsGraphsCard

/-- THE TIED CARD OF 'corollarylaw10.DepsLaws'. -/
def depsLawsCard : Claim7 := { stood := { row := depsLawsRow, standIns := [], harness := (true, "d3bf363e3397618ac5f6ef62b1775c41fcd5f7fa43fb9b4df9f66bf4f3d62607"), looks := true }, kinds := [], alts := [], laidByText := true, laidKinds := [.data, .data, .data, .sentinel, .sentinel, .widerDeep, .data, .widerDeep, .widerDeep], laidTests := true, laidLooks := .later }
def DepsLawsCardSaid : Prop := Claim7.holds Tryz.pinned (.plain (OpenSpec.ofChange depsLawsSpec)) depsLawsCard

/-- THE SECOND FORM's CARD OF 'corollarylaw13.ArithSolves'. -/
def arithSolvesUptoCard : Claim7 := { stood := { row := arithSolvesUptoRow, standIns := [], harness := (true, "d3bf363e3397618ac5f6ef62b1775c41fcd5f7fa43fb9b4df9f66bf4f3d62607"), looks := true }, kinds := [], alts := [], laidByText := true, laidKinds := [.data, .data, .data, .sentinel, .sentinel, .widerDeep, .data, .widerDeep, .widerDeep], laidTests := true, laidLooks := .later }
def ArithSolvesUptoCardSaid : Prop := Claim7.holds Tryz.pinned (.plain (OpenSpec.upto arithSolvesSpec)) arithSolvesUptoCard

/-- THE SECOND FORM's CARD OF 'corollarylaw07.ShowParts'. -/
def showPartsUptoCard : Claim7 := { stood := { row := showPartsUptoRow, standIns := [], harness := (true, "d3bf363e3397618ac5f6ef62b1775c41fcd5f7fa43fb9b4df9f66bf4f3d62607"), looks := true }, kinds := [], alts := [], laidByText := true, laidKinds := [.data, .data, .data, .sentinel, .sentinel, .widerDeep, .data, .data, .data, .data], laidTests := true, laidLooks := .later }
def ShowPartsUptoCardSaid : Prop := Claim7.holds Tryz.pinned (.plain (OpenSpec.upto showPartsSpec)) showPartsUptoCard

/-- THE SECOND FORM's CARD OF 'corollarylaw05.TermFormed'. -/
def termFormedUptoCard : Claim7 := { stood := { row := termFormedUptoRow, standIns := [], harness := (true, "d3bf363e3397618ac5f6ef62b1775c41fcd5f7fa43fb9b4df9f66bf4f3d62607"), looks := true }, kinds := [], alts := [], laidByText := true, laidKinds := [.data, .data, .data, .sentinel, .sentinel, .widerDeep, .data], laidTests := true, laidLooks := .later }
def TermFormedUptoCardSaid : Prop := Claim7.holds Tryz.pinned (.plain (OpenSpec.upto termFormedSpec)) termFormedUptoCard

/-- THE SECOND FORM's CARD OF 'corollarylaw09.SafeOrders'. -/
def safeOrdersUptoCard : Claim7 := { stood := { row := safeOrdersUptoRow, standIns := [], harness := (true, "d3bf363e3397618ac5f6ef62b1775c41fcd5f7fa43fb9b4df9f66bf4f3d62607"), looks := true }, kinds := [], alts := [], laidByText := true, laidKinds := [.data, .data, .data, .sentinel, .sentinel, .widerDeep, .data, .widerDeep, .widerDeep], laidTests := true, laidLooks := .later }
def SafeOrdersUptoCardSaid : Prop := Claim7.holds Tryz.pinned (.plain (OpenSpec.upto safeOrdersSpec)) safeOrdersUptoCard

/-- THE SECOND FORM's CARD OF 'corollarylaw09.SafeWhole'. -/
def safeWholeUptoCard : Claim7 := { stood := { row := safeWholeUptoRow, standIns := [], harness := (true, "d3bf363e3397618ac5f6ef62b1775c41fcd5f7fa43fb9b4df9f66bf4f3d62607"), looks := true }, kinds := [], alts := [], laidByText := true, laidKinds := [.data, .data, .data, .sentinel, .sentinel, .widerDeep, .data, .widerDeep, .widerDeep], laidTests := true, laidLooks := .later }
def SafeWholeUptoCardSaid : Prop := Claim7.holds Tryz.pinned (.plain (OpenSpec.upto safeWholeSpec)) safeWholeUptoCard

/-- THE SECOND FORM's CARD OF 'corollarylaw09.SafeChecks'. -/
def safeChecksUptoCard : Claim7 := { stood := { row := safeChecksUptoRow, standIns := [], harness := (true, "d3bf363e3397618ac5f6ef62b1775c41fcd5f7fa43fb9b4df9f66bf4f3d62607"), looks := true }, kinds := [], alts := [], laidByText := true, laidKinds := [.data, .data, .data, .sentinel, .sentinel, .widerDeep, .data, .widerDeep, .widerDeep], laidTests := true, laidLooks := .later }
def SafeChecksUptoCardSaid : Prop := Claim7.holds Tryz.pinned (.plain (OpenSpec.upto safeChecksSpec)) safeChecksUptoCard

/-- THE SECOND FORM's CARD OF 'corollarylaw08.TypesTexts'. -/
def typesTextsUptoCard : Claim7 := { stood := { row := typesTextsUptoRow, standIns := [], harness := (true, "d3bf363e3397618ac5f6ef62b1775c41fcd5f7fa43fb9b4df9f66bf4f3d62607"), looks := true }, kinds := [], alts := [], laidByText := true, laidKinds := [.data, .data, .data, .sentinel, .sentinel, .widerDeep, .data, .widerDeep, .widerDeep], laidTests := true, laidLooks := .later }
def TypesTextsUptoCardSaid : Prop := Claim7.holds Tryz.pinned (.plain (OpenSpec.upto typesTextsSpec)) typesTextsUptoCard

/-- THE SECOND FORM's CARD OF 'corollarylaw08.TypesChecks'. -/
def typesChecksUptoCard : Claim7 := { stood := { row := typesChecksUptoRow, standIns := [], harness := (true, "d3bf363e3397618ac5f6ef62b1775c41fcd5f7fa43fb9b4df9f66bf4f3d62607"), looks := true }, kinds := [], alts := [], laidByText := true, laidKinds := [.data, .data, .data, .sentinel, .sentinel, .widerDeep, .data, .widerDeep, .widerDeep], laidTests := true, laidLooks := .later }
def TypesChecksUptoCardSaid : Prop := Claim7.holds Tryz.pinned (.plain (OpenSpec.upto typesChecksSpec)) typesChecksUptoCard

/-- THE SECOND FORM's CARD OF 'corollarylaw08.TypesFits'. -/
def typesFitsUptoCard : Claim7 := { stood := { row := typesFitsUptoRow, standIns := [], harness := (true, "d3bf363e3397618ac5f6ef62b1775c41fcd5f7fa43fb9b4df9f66bf4f3d62607"), looks := true }, kinds := [], alts := [], laidByText := true, laidKinds := [.data, .data, .data, .sentinel, .sentinel, .widerDeep, .data, .widerDeep, .widerDeep], laidTests := true, laidLooks := .later }
def TypesFitsUptoCardSaid : Prop := Claim7.holds Tryz.pinned (.plain (OpenSpec.upto typesFitsSpec)) typesFitsUptoCard

/-- THE SECOND FORM's CARD OF 'corollarylaw10.DepsPrograms'. -/
def depsProgramsUptoCard : Claim7 := { stood := { row := depsProgramsUptoRow, standIns := [], harness := (true, "d3bf363e3397618ac5f6ef62b1775c41fcd5f7fa43fb9b4df9f66bf4f3d62607"), looks := true }, kinds := [], alts := [], laidByText := true, laidKinds := [.data, .data, .data, .sentinel, .sentinel, .widerDeep, .data, .widerDeep, .widerDeep], laidTests := true, laidLooks := .later }
def DepsProgramsUptoCardSaid : Prop := Claim7.holds Tryz.pinned (.plain (OpenSpec.upto depsProgramsSpec)) depsProgramsUptoCard

/-- THE SECOND FORM's CARD OF 'corollarylaw10.DepsGraphs'. -/
def depsGraphsUptoCard : Claim7 := { stood := { row := depsGraphsUptoRow, standIns := [], harness := (true, "d3bf363e3397618ac5f6ef62b1775c41fcd5f7fa43fb9b4df9f66bf4f3d62607"), looks := true }, kinds := [], alts := [], laidByText := true, laidKinds := [.data, .data, .data, .sentinel, .sentinel, .widerDeep, .data, .widerDeep, .widerDeep], laidTests := true, laidLooks := .later }
def DepsGraphsUptoCardSaid : Prop := Claim7.holds Tryz.pinned (.plain (OpenSpec.upto depsGraphsSpec)) depsGraphsUptoCard

/-- THE SECOND FORM's CARD OF 'corollarylaw10.DepsLaws'. -/
def depsLawsUptoCard : Claim7 := { stood := { row := depsLawsUptoRow, standIns := [], harness := (true, "d3bf363e3397618ac5f6ef62b1775c41fcd5f7fa43fb9b4df9f66bf4f3d62607"), looks := true }, kinds := [], alts := [], laidByText := true, laidKinds := [.data, .data, .data, .sentinel, .sentinel, .widerDeep, .data, .widerDeep, .widerDeep], laidTests := true, laidLooks := .later }
def DepsLawsUptoCardSaid : Prop := Claim7.holds Tryz.pinned (.plain (OpenSpec.upto depsLawsSpec)) depsLawsUptoCard
end Rows
end Go.Proofs.YtgabkmibfhmkmaaGreatDoor
