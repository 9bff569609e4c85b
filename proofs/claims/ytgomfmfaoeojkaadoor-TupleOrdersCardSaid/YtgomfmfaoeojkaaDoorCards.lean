/-
  DERIVED. GIVEN WITH THE SEED: THE CARDS: each row of YtgomfmfaoeojkaaDoorRows.lean that lists a variable, with what it lists TIED to the program's text (the seventh form; the later family's looks); each row that meets fmt, with fmt's text TOLD by the authors' own Lean function (tested against real Go, not proved from fmt's source: count such statements apart). THE CARD IS WHAT COUNTS. Prove the row's statement (the work); the ties are given (YtgomfmfaoeojkaaDoorTie.lean); close each card by the builder's one call (the guide's Derived/Test/ToyasCard.lean, 'card_holds'). Laid BY PROGRAM, IN A SANDBOX (cutbox-door.mjs). By AI agents, Wed Nov 11 2026. No macro, syntax, notation, axiom, sorry.
-/
import Derived.Test.YtgomfmfaoeojkaaDoorRows
import GoSem.ClaimSeven
namespace Go.Proofs.YtgomfmfaoeojkaaDoor
namespace Rows

/-- THE TIED CARD OF 'corollarylaw02.TupleTexts'. -/
def tupleTextsCard : Claim7 := { stood := { row := tupleTextsRow, standIns := [], harness := (true, "98c80b736219df7418e61391f754ac8c46fb6ba9ed979a360eddb9ba8518987f"), looks := true }, kinds := [], alts := [], laidByText := true, laidKinds := [.data, .data, .data], laidTests := true, laidLooks := .later }
def TupleTextsCardSaid : Prop := Claim7.holds Tryd.pinned (.plain (OpenSpec.ofChange tupleTextsSpec)) tupleTextsCard

/-- THE TIED CARD OF 'corollarylaw02.TupleOrders'. -/
def tupleOrdersCard : Claim7 := { stood := { row := tupleOrdersRow, standIns := [], harness := (true, "98c80b736219df7418e61391f754ac8c46fb6ba9ed979a360eddb9ba8518987f"), looks := true }, kinds := [], alts := [], laidByText := true, laidKinds := [.data, .data, .data], laidTests := true, laidLooks := .later }
def TupleOrdersCardSaid : Prop := Claim7.holds Tryd.pinned (.plain (OpenSpec.ofChange tupleOrdersSpec)) tupleOrdersCard

/-- THE TIED CARD OF 'corollarylaw02.TuplePicks'. -/
def tuplePicksCard : Claim7 := { stood := { row := tuplePicksRow, standIns := [], harness := (true, "98c80b736219df7418e61391f754ac8c46fb6ba9ed979a360eddb9ba8518987f"), looks := true }, kinds := [], alts := [], laidByText := true, laidKinds := [.data, .data, .data], laidTests := true, laidLooks := .later }
def TuplePicksCardSaid : Prop := Claim7.holds Tryd.pinned (.plain (OpenSpec.ofChange tuplePicksSpec)) tuplePicksCard

/-- THE TIED CARD OF 'corollarylaw02.TupleShards'. -/
def tupleShardsCard : Claim7 := { stood := { row := tupleShardsRow, standIns := [], harness := (true, "98c80b736219df7418e61391f754ac8c46fb6ba9ed979a360eddb9ba8518987f"), looks := true }, kinds := [], alts := [], laidByText := true, laidKinds := [.data, .data, .data], laidTests := true, laidLooks := .later }
def TupleShardsCardSaid : Prop := Claim7.holds Tryd.pinned (.plain (OpenSpec.ofChange tupleShardsSpec)) tupleShardsCard

/-- THE TIED CARD OF 'corollarylaw02.TupleJoins'. -/
def tupleJoinsCard : Claim7 := { stood := { row := tupleJoinsRow, standIns := [], harness := (true, "98c80b736219df7418e61391f754ac8c46fb6ba9ed979a360eddb9ba8518987f"), looks := true }, kinds := [], alts := [], laidByText := true, laidKinds := [.data, .data, .data], laidTests := true, laidLooks := .later }
def TupleJoinsCardSaid : Prop := Claim7.holds Tryd.pinned (.plain (OpenSpec.ofChange tupleJoinsSpec)) tupleJoinsCard

/-- THE SECOND FORM's CARD OF 'corollarylaw02.TupleTexts'. -/
def tupleTextsUptoCard : Claim7 := { stood := { row := tupleTextsUptoRow, standIns := [], harness := (true, "98c80b736219df7418e61391f754ac8c46fb6ba9ed979a360eddb9ba8518987f"), looks := true }, kinds := [], alts := [], laidByText := true, laidKinds := [.data, .data, .data], laidTests := true, laidLooks := .later }
def TupleTextsUptoCardSaid : Prop := Claim7.holds Tryd.pinned (.plain (OpenSpec.upto tupleTextsSpec)) tupleTextsUptoCard

/-- THE SECOND FORM's CARD OF 'corollarylaw02.TupleOrders'. -/
def tupleOrdersUptoCard : Claim7 := { stood := { row := tupleOrdersUptoRow, standIns := [], harness := (true, "98c80b736219df7418e61391f754ac8c46fb6ba9ed979a360eddb9ba8518987f"), looks := true }, kinds := [], alts := [], laidByText := true, laidKinds := [.data, .data, .data], laidTests := true, laidLooks := .later }
def TupleOrdersUptoCardSaid : Prop := Claim7.holds Tryd.pinned (.plain (OpenSpec.upto tupleOrdersSpec)) tupleOrdersUptoCard

/-- THE SECOND FORM's CARD OF 'corollarylaw02.TuplePicks'. -/
def tuplePicksUptoCard : Claim7 := { stood := { row := tuplePicksUptoRow, standIns := [], harness := (true, "98c80b736219df7418e61391f754ac8c46fb6ba9ed979a360eddb9ba8518987f"), looks := true }, kinds := [], alts := [], laidByText := true, laidKinds := [.data, .data, .data], laidTests := true, laidLooks := .later }
def TuplePicksUptoCardSaid : Prop := Claim7.holds Tryd.pinned (.plain (OpenSpec.upto tuplePicksSpec)) tuplePicksUptoCard

/-- THE SECOND FORM's CARD OF 'corollarylaw02.TupleShards'. -/
def tupleShardsUptoCard : Claim7 := { stood := { row := tupleShardsUptoRow, standIns := [], harness := (true, "98c80b736219df7418e61391f754ac8c46fb6ba9ed979a360eddb9ba8518987f"), looks := true }, kinds := [], alts := [], laidByText := true, laidKinds := [.data, .data, .data], laidTests := true, laidLooks := .later }
def TupleShardsUptoCardSaid : Prop := Claim7.holds Tryd.pinned (.plain (OpenSpec.upto tupleShardsSpec)) tupleShardsUptoCard

/-- THE SECOND FORM's CARD OF 'corollarylaw02.TupleJoins'. -/
def tupleJoinsUptoCard : Claim7 := { stood := { row := tupleJoinsUptoRow, standIns := [], harness := (true, "98c80b736219df7418e61391f754ac8c46fb6ba9ed979a360eddb9ba8518987f"), looks := true }, kinds := [], alts := [], laidByText := true, laidKinds := [.data, .data, .data], laidTests := true, laidLooks := .later }
def TupleJoinsUptoCardSaid : Prop := Claim7.holds Tryd.pinned (.plain (OpenSpec.upto tupleJoinsSpec)) tupleJoinsUptoCard
end Rows
end Go.Proofs.YtgomfmfaoeojkaaDoor
