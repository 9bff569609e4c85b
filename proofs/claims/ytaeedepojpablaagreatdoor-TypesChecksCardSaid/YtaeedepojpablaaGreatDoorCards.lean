/-
  DERIVED. GIVEN WITH THE SEED: THE CARDS: each row of YtaeedepojpablaaGreatDoorRows.lean that lists a variable, with what it lists TIED to the program's text (the seventh form; the later family's looks); each row that meets fmt, with fmt's text TOLD by the authors' own Lean function (tested against real Go, not proved from fmt's source: count such statements apart). THE CARD IS WHAT COUNTS. Prove the row's statement (the work); the ties are given (YtaeedepojpablaaGreatDoorTie.lean); close each card by the builder's one call (the guide's Derived/Test/ToyasCard.lean, 'card_holds'). Laid BY PROGRAM, IN A SANDBOX (cutbox-door.mjs). By AI agents, Wed Nov 11 2026. No macro, syntax, notation, axiom, sorry.
-/
import Derived.Test.YtaeedepojpablaaGreatDoorRows
import GoSem.ClaimSeven
namespace Go.Proofs.YtaeedepojpablaaGreatDoor
namespace Rows

/-- THE TIED CARD OF 'corollarylaw08.TypesTexts'. -/
def typesTextsCard : Claim7 := { stood := { row := typesTextsRow, standIns := [], harness := (true, "d1b58e48967d0d2bc84c66f206d1621701a03b98fe8b11400bf93b54d11f6264"), looks := true }, kinds := [], alts := [], laidByText := true, laidKinds := [.data, .data, .data, .sentinel, .sentinel, .widerDeep, .data, .widerDeep, .widerDeep], laidTests := true, laidLooks := .later }
def TypesTextsCardSaid : Prop := Claim7.holds Tryz.pinned (.plain (OpenSpec.ofChange typesTextsSpec)) typesTextsCard

/-- THE TIED CARD OF 'corollarylaw08.TypesChecks'. -/
def typesChecksCard : Claim7 := { stood := { row := typesChecksRow, standIns := [], harness := (true, "d1b58e48967d0d2bc84c66f206d1621701a03b98fe8b11400bf93b54d11f6264"), looks := true }, kinds := [], alts := [], laidByText := true, laidKinds := [.data, .data, .data, .sentinel, .sentinel, .widerDeep, .data, .widerDeep, .widerDeep], laidTests := true, laidLooks := .later }
def TypesChecksCardSaid : Prop := Claim7.holds Tryz.pinned (.plain (OpenSpec.ofChange typesChecksSpec)) typesChecksCard

/-- THE TIED CARD OF 'corollarylaw08.TypesFits'. -/
def typesFitsCard : Claim7 := { stood := { row := typesFitsRow, standIns := [], harness := (true, "d1b58e48967d0d2bc84c66f206d1621701a03b98fe8b11400bf93b54d11f6264"), looks := true }, kinds := [], alts := [], laidByText := true, laidKinds := [.data, .data, .data, .sentinel, .sentinel, .widerDeep, .data, .widerDeep, .widerDeep], laidTests := true, laidLooks := .later }
def TypesFitsCardSaid : Prop := Claim7.holds Tryz.pinned (.plain (OpenSpec.ofChange typesFitsSpec)) typesFitsCard

/-- THE TIED CARD OF 'corollarylaw12.StrataReal'. -/
def strataRealCard : Claim7 := { stood := { row := strataRealRow, standIns := [], harness := (true, "d1b58e48967d0d2bc84c66f206d1621701a03b98fe8b11400bf93b54d11f6264"), looks := true }, kinds := [], alts := [], laidByText := true, laidKinds := [.data, .data, .data, .sentinel, .sentinel, .widerDeep, .data, .widerDeep, .widerDeep], laidTests := true, laidLooks := .later }
def StrataRealCardSaid : Prop := Claim7.holds Tryz.pinned (.plain (OpenSpec.ofChange strataRealSpec)) strataRealCard

/-- THE SECOND FORM's CARD OF 'corollarylaw08.TypesTexts'. -/
def typesTextsUptoCard : Claim7 := { stood := { row := typesTextsUptoRow, standIns := [], harness := (true, "d1b58e48967d0d2bc84c66f206d1621701a03b98fe8b11400bf93b54d11f6264"), looks := true }, kinds := [], alts := [], laidByText := true, laidKinds := [.data, .data, .data, .sentinel, .sentinel, .widerDeep, .data, .widerDeep, .widerDeep], laidTests := true, laidLooks := .later }
def TypesTextsUptoCardSaid : Prop := Claim7.holds Tryz.pinned (.plain (OpenSpec.upto typesTextsSpec)) typesTextsUptoCard

/-- THE SECOND FORM's CARD OF 'corollarylaw08.TypesChecks'. -/
def typesChecksUptoCard : Claim7 := { stood := { row := typesChecksUptoRow, standIns := [], harness := (true, "d1b58e48967d0d2bc84c66f206d1621701a03b98fe8b11400bf93b54d11f6264"), looks := true }, kinds := [], alts := [], laidByText := true, laidKinds := [.data, .data, .data, .sentinel, .sentinel, .widerDeep, .data, .widerDeep, .widerDeep], laidTests := true, laidLooks := .later }
def TypesChecksUptoCardSaid : Prop := Claim7.holds Tryz.pinned (.plain (OpenSpec.upto typesChecksSpec)) typesChecksUptoCard

/-- THE SECOND FORM's CARD OF 'corollarylaw08.TypesFits'. -/
def typesFitsUptoCard : Claim7 := { stood := { row := typesFitsUptoRow, standIns := [], harness := (true, "d1b58e48967d0d2bc84c66f206d1621701a03b98fe8b11400bf93b54d11f6264"), looks := true }, kinds := [], alts := [], laidByText := true, laidKinds := [.data, .data, .data, .sentinel, .sentinel, .widerDeep, .data, .widerDeep, .widerDeep], laidTests := true, laidLooks := .later }
def TypesFitsUptoCardSaid : Prop := Claim7.holds Tryz.pinned (.plain (OpenSpec.upto typesFitsSpec)) typesFitsUptoCard

/-- THE SECOND FORM's CARD OF 'corollarylaw12.StrataReal'. -/
def strataRealUptoCard : Claim7 := { stood := { row := strataRealUptoRow, standIns := [], harness := (true, "d1b58e48967d0d2bc84c66f206d1621701a03b98fe8b11400bf93b54d11f6264"), looks := true }, kinds := [], alts := [], laidByText := true, laidKinds := [.data, .data, .data, .sentinel, .sentinel, .widerDeep, .data, .widerDeep, .widerDeep], laidTests := true, laidLooks := .later }
def StrataRealUptoCardSaid : Prop := Claim7.holds Tryz.pinned (.plain (OpenSpec.upto strataRealSpec)) strataRealUptoCard
end Rows
end Go.Proofs.YtaeedepojpablaaGreatDoor
