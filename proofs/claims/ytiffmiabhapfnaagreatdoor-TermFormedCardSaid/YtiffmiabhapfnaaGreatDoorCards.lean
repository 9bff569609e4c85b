/-
  DERIVED. GIVEN WITH THE SEED: THE CARDS: each row of YtiffmiabhapfnaaGreatDoorRows.lean that lists a variable, with what it lists TIED to the program's text (the seventh form; the later family's looks); each row that meets fmt, with fmt's text TOLD by the authors' own Lean function (tested against real Go, not proved from fmt's source: count such statements apart). THE CARD IS WHAT COUNTS. Prove the row's statement (the work); the ties are given (YtiffmiabhapfnaaGreatDoorTie.lean); close each card by the builder's one call (the guide's Derived/Test/ToyasCard.lean, 'card_holds'). Laid BY PROGRAM, IN A SANDBOX (cutbox-door.mjs). By AI agents, Wed Nov 11 2026. No macro, syntax, notation, axiom, sorry.
-/
import Derived.Test.YtiffmiabhapfnaaGreatDoorRows
import GoSem.ClaimSeven
namespace Go.Proofs.YtiffmiabhapfnaaGreatDoor
namespace Rows

/-- THE TIED CARD OF 'corollarylaw05.TermTerms'. -/
def termTermsCard : Claim7 := { stood := { row := termTermsRow, standIns := [], harness := (true, "546bed035fef9d328569d3681458ec85554c2cd67688ecca351aadbeab2458d9"), looks := true }, kinds := [], alts := [], laidByText := true, laidKinds := [.data, .data, .data, .sentinel, .sentinel, .widerDeep, .data], laidTests := true, laidLooks := .later }
def TermTermsCardSaid : Prop := Claim7.holds Tryz.pinned (.plain (OpenSpec.ofChange termTermsSpec)) termTermsCard

/-- THE TIED CARD OF 'corollarylaw05.TermWhole'. -/
def termWholeCard : Claim7 := { stood := { row := termWholeRow, standIns := [], harness := (true, "546bed035fef9d328569d3681458ec85554c2cd67688ecca351aadbeab2458d9"), looks := true }, kinds := [], alts := [], laidByText := true, laidKinds := [.data, .data, .data, .sentinel, .sentinel, .widerDeep, .data], laidTests := true, laidLooks := .later }
def TermWholeCardSaid : Prop := Claim7.holds Tryz.pinned (.plain (OpenSpec.ofChange termWholeSpec)) termWholeCard

/-- THE TIED CARD OF 'corollarylaw05.TermFormed'. -/
def termFormedCard : Claim7 := { stood := { row := termFormedRow, standIns := [], harness := (true, "546bed035fef9d328569d3681458ec85554c2cd67688ecca351aadbeab2458d9"), looks := true }, kinds := [], alts := [], laidByText := true, laidKinds := [.data, .data, .data, .sentinel, .sentinel, .widerDeep, .data], laidTests := true, laidLooks := .later }
def TermFormedCardSaid : Prop := Claim7.holds Tryz.pinned (.plain (OpenSpec.ofChange termFormedSpec)) termFormedCard

/-- THE SECOND FORM's CARD OF 'corollarylaw05.TermTerms'. -/
def termTermsUptoCard : Claim7 := { stood := { row := termTermsUptoRow, standIns := [], harness := (true, "546bed035fef9d328569d3681458ec85554c2cd67688ecca351aadbeab2458d9"), looks := true }, kinds := [], alts := [], laidByText := true, laidKinds := [.data, .data, .data, .sentinel, .sentinel, .widerDeep, .data], laidTests := true, laidLooks := .later }
def TermTermsUptoCardSaid : Prop := Claim7.holds Tryz.pinned (.plain (OpenSpec.upto termTermsSpec)) termTermsUptoCard

/-- THE SECOND FORM's CARD OF 'corollarylaw05.TermWhole'. -/
def termWholeUptoCard : Claim7 := { stood := { row := termWholeUptoRow, standIns := [], harness := (true, "546bed035fef9d328569d3681458ec85554c2cd67688ecca351aadbeab2458d9"), looks := true }, kinds := [], alts := [], laidByText := true, laidKinds := [.data, .data, .data, .sentinel, .sentinel, .widerDeep, .data], laidTests := true, laidLooks := .later }
def TermWholeUptoCardSaid : Prop := Claim7.holds Tryz.pinned (.plain (OpenSpec.upto termWholeSpec)) termWholeUptoCard

/-- THE SECOND FORM's CARD OF 'corollarylaw05.TermFormed'. -/
def termFormedUptoCard : Claim7 := { stood := { row := termFormedUptoRow, standIns := [], harness := (true, "546bed035fef9d328569d3681458ec85554c2cd67688ecca351aadbeab2458d9"), looks := true }, kinds := [], alts := [], laidByText := true, laidKinds := [.data, .data, .data, .sentinel, .sentinel, .widerDeep, .data], laidTests := true, laidLooks := .later }
def TermFormedUptoCardSaid : Prop := Claim7.holds Tryz.pinned (.plain (OpenSpec.upto termFormedSpec)) termFormedUptoCard
end Rows
end Go.Proofs.YtiffmiabhapfnaaGreatDoor
