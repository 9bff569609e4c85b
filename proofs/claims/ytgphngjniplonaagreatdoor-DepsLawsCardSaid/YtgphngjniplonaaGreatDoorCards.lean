/-
  DERIVED. GIVEN WITH THE SEED: THE CARDS: each row of YtgphngjniplonaaGreatDoorRows.lean that lists a variable, with what it lists TIED to the program's text (the seventh form; the later family's looks); each row that meets fmt, with fmt's text TOLD by the authors' own Lean function (tested against real Go, not proved from fmt's source: count such statements apart). THE CARD IS WHAT COUNTS. Prove the row's statement (the work); the ties are given (YtgphngjniplonaaGreatDoorTie.lean); close each card by the builder's one call (the guide's Derived/Test/ToyasCard.lean, 'card_holds'). Laid BY PROGRAM, IN A SANDBOX (cutbox-door.mjs). By AI agents, Wed Nov 11 2026. No macro, syntax, notation, axiom, sorry.
-/
import Derived.Test.YtgphngjniplonaaGreatDoorRows
import GoSem.ClaimSeven
namespace Go.Proofs.YtgphngjniplonaaGreatDoor
namespace Rows

/-- THE TIED CARD OF 'corollarylaw10.DepsPrograms'. -/
def depsProgramsCard : Claim7 := { stood := { row := depsProgramsRow, standIns := [], harness := (true, "04a1f1c28c8fb6ca80f57b587a83756b3eebc50b34ce5b42e3e019e2a34f50d0"), looks := true }, kinds := [], alts := [], laidByText := true, laidKinds := [.data, .data, .data, .sentinel, .sentinel, .widerDeep, .data, .widerDeep, .widerDeep], laidTests := true, laidLooks := .later }
def DepsProgramsCardSaid : Prop := Claim7.holds Tryz.pinned (.plain (OpenSpec.ofChange depsProgramsSpec)) depsProgramsCard

/-- THE TIED CARD OF 'corollarylaw10.DepsGraphs'. -/
def depsGraphsCard : Claim7 := { stood := { row := depsGraphsRow, standIns := [], harness := (true, "04a1f1c28c8fb6ca80f57b587a83756b3eebc50b34ce5b42e3e019e2a34f50d0"), looks := true }, kinds := [], alts := [], laidByText := true, laidKinds := [.data, .data, .data, .sentinel, .sentinel, .widerDeep, .data, .widerDeep, .widerDeep], laidTests := true, laidLooks := .later }
def DepsGraphsCardSaid : Prop := Claim7.holds Tryz.pinned (.plain (OpenSpec.ofChange depsGraphsSpec)) depsGraphsCard

/-- THE TIED CARD OF 'corollarylaw10.DepsPaths'. -/
def depsPathsCard : Claim7 := { stood := { row := depsPathsRow, standIns := [], harness := (true, "04a1f1c28c8fb6ca80f57b587a83756b3eebc50b34ce5b42e3e019e2a34f50d0"), looks := true }, kinds := [], alts := [], laidByText := true, laidKinds := [.data, .data, .data, .sentinel, .sentinel, .widerDeep, .data, .widerDeep, .widerDeep], laidTests := true, laidLooks := .later }
def DepsPathsCardSaid : Prop := Claim7.holds Tryz.pinned (.plain (OpenSpec.ofChange depsPathsSpec)) depsPathsCard

/-- THE TIED CARD OF 'corollarylaw10.DepsLaws'. -/
def depsLawsCard : Claim7 := { stood := { row := depsLawsRow, standIns := [], harness := (true, "04a1f1c28c8fb6ca80f57b587a83756b3eebc50b34ce5b42e3e019e2a34f50d0"), looks := true }, kinds := [], alts := [], laidByText := true, laidKinds := [.data, .data, .data, .sentinel, .sentinel, .widerDeep, .data, .widerDeep, .widerDeep], laidTests := true, laidLooks := .later }
def DepsLawsCardSaid : Prop := Claim7.holds Tryz.pinned (.plain (OpenSpec.ofChange depsLawsSpec)) depsLawsCard

/-- THE SECOND FORM's CARD OF 'corollarylaw10.DepsPrograms'. -/
def depsProgramsUptoCard : Claim7 := { stood := { row := depsProgramsUptoRow, standIns := [], harness := (true, "04a1f1c28c8fb6ca80f57b587a83756b3eebc50b34ce5b42e3e019e2a34f50d0"), looks := true }, kinds := [], alts := [], laidByText := true, laidKinds := [.data, .data, .data, .sentinel, .sentinel, .widerDeep, .data, .widerDeep, .widerDeep], laidTests := true, laidLooks := .later }
def DepsProgramsUptoCardSaid : Prop := Claim7.holds Tryz.pinned (.plain (OpenSpec.upto depsProgramsSpec)) depsProgramsUptoCard

/-- THE SECOND FORM's CARD OF 'corollarylaw10.DepsGraphs'. -/
def depsGraphsUptoCard : Claim7 := { stood := { row := depsGraphsUptoRow, standIns := [], harness := (true, "04a1f1c28c8fb6ca80f57b587a83756b3eebc50b34ce5b42e3e019e2a34f50d0"), looks := true }, kinds := [], alts := [], laidByText := true, laidKinds := [.data, .data, .data, .sentinel, .sentinel, .widerDeep, .data, .widerDeep, .widerDeep], laidTests := true, laidLooks := .later }
def DepsGraphsUptoCardSaid : Prop := Claim7.holds Tryz.pinned (.plain (OpenSpec.upto depsGraphsSpec)) depsGraphsUptoCard

/-- THE SECOND FORM's CARD OF 'corollarylaw10.DepsPaths'. -/
def depsPathsUptoCard : Claim7 := { stood := { row := depsPathsUptoRow, standIns := [], harness := (true, "04a1f1c28c8fb6ca80f57b587a83756b3eebc50b34ce5b42e3e019e2a34f50d0"), looks := true }, kinds := [], alts := [], laidByText := true, laidKinds := [.data, .data, .data, .sentinel, .sentinel, .widerDeep, .data, .widerDeep, .widerDeep], laidTests := true, laidLooks := .later }
def DepsPathsUptoCardSaid : Prop := Claim7.holds Tryz.pinned (.plain (OpenSpec.upto depsPathsSpec)) depsPathsUptoCard

/-- THE SECOND FORM's CARD OF 'corollarylaw10.DepsLaws'. -/
def depsLawsUptoCard : Claim7 := { stood := { row := depsLawsUptoRow, standIns := [], harness := (true, "04a1f1c28c8fb6ca80f57b587a83756b3eebc50b34ce5b42e3e019e2a34f50d0"), looks := true }, kinds := [], alts := [], laidByText := true, laidKinds := [.data, .data, .data, .sentinel, .sentinel, .widerDeep, .data, .widerDeep, .widerDeep], laidTests := true, laidLooks := .later }
def DepsLawsUptoCardSaid : Prop := Claim7.holds Tryz.pinned (.plain (OpenSpec.upto depsLawsSpec)) depsLawsUptoCard
end Rows
end Go.Proofs.YtgphngjniplonaaGreatDoor
