/-
  DERIVED. GIVEN WITH THE SEED: THE CARDS: each row of YtmaahfcniedfhaaDoorRows.lean that lists a variable, with what it lists TIED to the program's text (the seventh form; the later family's looks); each row that meets fmt, with fmt's text TOLD by the authors' own Lean function (tested against real Go, not proved from fmt's source: count such statements apart). THE CARD IS WHAT COUNTS. Prove the row's statement (the work); the ties are given (YtmaahfcniedfhaaDoorTie.lean); close each card by the builder's one call (the guide's Derived/Test/ToyasCard.lean, 'card_holds'). Laid BY PROGRAM, IN A SANDBOX (cutbox-door.mjs). By AI agents, Wed Nov 11 2026. No macro, syntax, notation, axiom, sorry.
-/
import Derived.Test.YtmaahfcniedfhaaDoorRows
import GoSem.ClaimSeven
namespace Go.Proofs.YtmaahfcniedfhaaDoor
namespace Rows

/-- THE TIED CARD OF 'corollarylaw20.StampOrders'. -/
def stampOrdersCard : Claim7 := { stood := { row := stampOrdersRow, standIns := [], harness := (true, "d541861b903894b9316b97e0a8cadd450a3f18c8150de5ef2f260cf5710c5426"), looks := true }, kinds := [], alts := [], laidByText := true, laidKinds := [.data, .data, .data], laidTests := true, laidLooks := .later }
def StampOrdersCardSaid : Prop := Claim7.holds Tryd.pinned (.plain (OpenSpec.ofChange stampOrdersSpec)) stampOrdersCard

/-- THE TIED CARD OF 'corollarylaw20.StampPaths'. -/
def stampPathsCard : Claim7 := { stood := { row := stampPathsRow, standIns := [], harness := (true, "d541861b903894b9316b97e0a8cadd450a3f18c8150de5ef2f260cf5710c5426"), looks := true }, kinds := [], alts := [], laidByText := true, laidKinds := [.data, .data, .data], laidTests := true, laidLooks := .later }
def StampPathsCardSaid : Prop := Claim7.holds Tryd.pinned (.plain (OpenSpec.ofChange stampPathsSpec)) stampPathsCard

/-- THE TIED CARD OF 'corollarylaw20.StampKeeps'. -/
def stampKeepsCard : Claim7 := { stood := { row := stampKeepsRow, standIns := [], harness := (true, "d541861b903894b9316b97e0a8cadd450a3f18c8150de5ef2f260cf5710c5426"), looks := true }, kinds := [], alts := [], laidByText := true, laidKinds := [.data, .data, .data], laidTests := true, laidLooks := .later }
def StampKeepsCardSaid : Prop := Claim7.holds Tryd.pinned (.plain (OpenSpec.ofChange stampKeepsSpec)) stampKeepsCard

/-- THE TIED CARD OF 'corollarylaw20.StampTimes'. -/
def stampTimesCard : Claim7 := { stood := { row := stampTimesRow, standIns := [], harness := (true, "d541861b903894b9316b97e0a8cadd450a3f18c8150de5ef2f260cf5710c5426"), looks := true }, kinds := [], alts := [], laidByText := true, laidKinds := [.data, .data, .data], laidTests := true, laidLooks := .later }
def StampTimesCardSaid : Prop := Claim7.holds Tryd.pinned (.plain (OpenSpec.ofChange stampTimesSpec)) stampTimesCard

/-- THE SECOND FORM's CARD OF 'corollarylaw20.StampOrders'. -/
def stampOrdersUptoCard : Claim7 := { stood := { row := stampOrdersUptoRow, standIns := [], harness := (true, "d541861b903894b9316b97e0a8cadd450a3f18c8150de5ef2f260cf5710c5426"), looks := true }, kinds := [], alts := [], laidByText := true, laidKinds := [.data, .data, .data], laidTests := true, laidLooks := .later }
def StampOrdersUptoCardSaid : Prop := Claim7.holds Tryd.pinned (.plain (OpenSpec.upto stampOrdersSpec)) stampOrdersUptoCard

/-- THE SECOND FORM's CARD OF 'corollarylaw20.StampPaths'. -/
def stampPathsUptoCard : Claim7 := { stood := { row := stampPathsUptoRow, standIns := [], harness := (true, "d541861b903894b9316b97e0a8cadd450a3f18c8150de5ef2f260cf5710c5426"), looks := true }, kinds := [], alts := [], laidByText := true, laidKinds := [.data, .data, .data], laidTests := true, laidLooks := .later }
def StampPathsUptoCardSaid : Prop := Claim7.holds Tryd.pinned (.plain (OpenSpec.upto stampPathsSpec)) stampPathsUptoCard

/-- THE SECOND FORM's CARD OF 'corollarylaw20.StampKeeps'. -/
def stampKeepsUptoCard : Claim7 := { stood := { row := stampKeepsUptoRow, standIns := [], harness := (true, "d541861b903894b9316b97e0a8cadd450a3f18c8150de5ef2f260cf5710c5426"), looks := true }, kinds := [], alts := [], laidByText := true, laidKinds := [.data, .data, .data], laidTests := true, laidLooks := .later }
def StampKeepsUptoCardSaid : Prop := Claim7.holds Tryd.pinned (.plain (OpenSpec.upto stampKeepsSpec)) stampKeepsUptoCard

/-- THE SECOND FORM's CARD OF 'corollarylaw20.StampTimes'. -/
def stampTimesUptoCard : Claim7 := { stood := { row := stampTimesUptoRow, standIns := [], harness := (true, "d541861b903894b9316b97e0a8cadd450a3f18c8150de5ef2f260cf5710c5426"), looks := true }, kinds := [], alts := [], laidByText := true, laidKinds := [.data, .data, .data], laidTests := true, laidLooks := .later }
def StampTimesUptoCardSaid : Prop := Claim7.holds Tryd.pinned (.plain (OpenSpec.upto stampTimesSpec)) stampTimesUptoCard
end Rows
end Go.Proofs.YtmaahfcniedfhaaDoor
