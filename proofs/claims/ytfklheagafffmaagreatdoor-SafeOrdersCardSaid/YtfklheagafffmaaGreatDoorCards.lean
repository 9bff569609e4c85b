/-
  DERIVED. GIVEN WITH THE SEED: THE CARDS: each row of YtfklheagafffmaaGreatDoorRows.lean that lists a variable, with what it lists TIED to the program's text (the seventh form; the later family's looks); each row that meets fmt, with fmt's text TOLD by the authors' own Lean function (tested against real Go, not proved from fmt's source: count such statements apart). THE CARD IS WHAT COUNTS. Prove the row's statement (the work); the ties are given (YtfklheagafffmaaGreatDoorTie.lean); close each card by the builder's one call (the guide's Derived/Test/ToyasCard.lean, 'card_holds'). Laid BY PROGRAM, IN A SANDBOX (cutbox-door.mjs). By AI agents, Wed Nov 11 2026. No macro, syntax, notation, axiom, sorry.
-/
import Derived.Test.YtfklheagafffmaaGreatDoorRows
import GoSem.ClaimSeven
namespace Go.Proofs.YtfklheagafffmaaGreatDoor
namespace Rows

/-- THE TIED CARD OF 'corollarylaw09.SafeOrders'. -/
def safeOrdersCard : Claim7 := { stood := { row := safeOrdersRow, standIns := [], harness := (true, "9e413e007d9cdd3c6e9c83fc524fae9d38d8a00e21f34369c3b5d2d02b0553b7"), looks := true }, kinds := [], alts := [], laidByText := true, laidKinds := [.data, .data, .data, .sentinel, .sentinel, .widerDeep, .data, .widerDeep, .widerDeep], laidTests := true, laidLooks := .later }
def SafeOrdersCardSaid : Prop := Claim7.holds Tryz.pinned (.plain (OpenSpec.ofChange safeOrdersSpec)) safeOrdersCard

/-- THE TIED CARD OF 'corollarylaw09.SafeWhole'. -/
def safeWholeCard : Claim7 := { stood := { row := safeWholeRow, standIns := [], harness := (true, "9e413e007d9cdd3c6e9c83fc524fae9d38d8a00e21f34369c3b5d2d02b0553b7"), looks := true }, kinds := [], alts := [], laidByText := true, laidKinds := [.data, .data, .data, .sentinel, .sentinel, .widerDeep, .data, .widerDeep, .widerDeep], laidTests := true, laidLooks := .later }
def SafeWholeCardSaid : Prop := Claim7.holds Tryz.pinned (.plain (OpenSpec.ofChange safeWholeSpec)) safeWholeCard

/-- THE TIED CARD OF 'corollarylaw09.SafeChecks'. -/
def safeChecksCard : Claim7 := { stood := { row := safeChecksRow, standIns := [], harness := (true, "9e413e007d9cdd3c6e9c83fc524fae9d38d8a00e21f34369c3b5d2d02b0553b7"), looks := true }, kinds := [], alts := [], laidByText := true, laidKinds := [.data, .data, .data, .sentinel, .sentinel, .widerDeep, .data, .widerDeep, .widerDeep], laidTests := true, laidLooks := .later }
def SafeChecksCardSaid : Prop := Claim7.holds Tryz.pinned (.plain (OpenSpec.ofChange safeChecksSpec)) safeChecksCard

/-- THE SECOND FORM's CARD OF 'corollarylaw09.SafeOrders'. -/
def safeOrdersUptoCard : Claim7 := { stood := { row := safeOrdersUptoRow, standIns := [], harness := (true, "9e413e007d9cdd3c6e9c83fc524fae9d38d8a00e21f34369c3b5d2d02b0553b7"), looks := true }, kinds := [], alts := [], laidByText := true, laidKinds := [.data, .data, .data, .sentinel, .sentinel, .widerDeep, .data, .widerDeep, .widerDeep], laidTests := true, laidLooks := .later }
def SafeOrdersUptoCardSaid : Prop := Claim7.holds Tryz.pinned (.plain (OpenSpec.upto safeOrdersSpec)) safeOrdersUptoCard

/-- THE SECOND FORM's CARD OF 'corollarylaw09.SafeWhole'. -/
def safeWholeUptoCard : Claim7 := { stood := { row := safeWholeUptoRow, standIns := [], harness := (true, "9e413e007d9cdd3c6e9c83fc524fae9d38d8a00e21f34369c3b5d2d02b0553b7"), looks := true }, kinds := [], alts := [], laidByText := true, laidKinds := [.data, .data, .data, .sentinel, .sentinel, .widerDeep, .data, .widerDeep, .widerDeep], laidTests := true, laidLooks := .later }
def SafeWholeUptoCardSaid : Prop := Claim7.holds Tryz.pinned (.plain (OpenSpec.upto safeWholeSpec)) safeWholeUptoCard

/-- THE SECOND FORM's CARD OF 'corollarylaw09.SafeChecks'. -/
def safeChecksUptoCard : Claim7 := { stood := { row := safeChecksUptoRow, standIns := [], harness := (true, "9e413e007d9cdd3c6e9c83fc524fae9d38d8a00e21f34369c3b5d2d02b0553b7"), looks := true }, kinds := [], alts := [], laidByText := true, laidKinds := [.data, .data, .data, .sentinel, .sentinel, .widerDeep, .data, .widerDeep, .widerDeep], laidTests := true, laidLooks := .later }
def SafeChecksUptoCardSaid : Prop := Claim7.holds Tryz.pinned (.plain (OpenSpec.upto safeChecksSpec)) safeChecksUptoCard
end Rows
end Go.Proofs.YtfklheagafffmaaGreatDoor
