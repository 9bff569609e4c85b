/-
  DERIVED. GIVEN WITH THE SEED: THE CARDS: each row of YtplekbpmfaghbaaDoorRows.lean that lists a variable, with what it lists TIED to the program's text (the seventh form; the later family's looks); each row that meets fmt, with fmt's text TOLD by the authors' own Lean function (tested against real Go, not proved from fmt's source: count such statements apart). THE CARD IS WHAT COUNTS. Prove the row's statement (the work); the ties are given (YtplekbpmfaghbaaDoorTie.lean); close each card by the builder's one call (the guide's Derived/Test/ToyasCard.lean, 'card_holds'). Laid BY PROGRAM, IN A SANDBOX (cutbox-door.mjs). By AI agents, Wed Nov 11 2026. No macro, syntax, notation, axiom, sorry.
-/
import Derived.Test.YtplekbpmfaghbaaDoorRows
import GoSem.ClaimSeven
namespace Go.Proofs.YtplekbpmfaghbaaDoor
namespace Rows

/-- THE TIED CARD OF 'corollarylaw13.ArithSwaps'. -/
def arithSwapsCard : Claim7 := { stood := { row := arithSwapsRow, standIns := [], harness := (true, "0326847d3fce14d0c820c3d2bd3a4fd2d8df3f4bb9e493af1f040ff44bbf5b45"), looks := true }, kinds := [], alts := [], laidByText := true, laidKinds := [.data, .data, .data, .sentinel, .sentinel, .widerDeep, .data, .widerDeep, .widerDeep], laidTests := true, laidLooks := .later }
def ArithSwapsCardSaid : Prop := Claim7.holds Tryd.pinned (.plain (OpenSpec.ofChange arithSwapsSpec)) arithSwapsCard

/-- THE SECOND FORM's CARD OF 'corollarylaw13.ArithSwaps'. -/
def arithSwapsUptoCard : Claim7 := { stood := { row := arithSwapsUptoRow, standIns := [], harness := (true, "0326847d3fce14d0c820c3d2bd3a4fd2d8df3f4bb9e493af1f040ff44bbf5b45"), looks := true }, kinds := [], alts := [], laidByText := true, laidKinds := [.data, .data, .data, .sentinel, .sentinel, .widerDeep, .data, .widerDeep, .widerDeep], laidTests := true, laidLooks := .later }
def ArithSwapsUptoCardSaid : Prop := Claim7.holds Tryd.pinned (.plain (OpenSpec.upto arithSwapsSpec)) arithSwapsUptoCard
end Rows
end Go.Proofs.YtplekbpmfaghbaaDoor
