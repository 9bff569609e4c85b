/-
  No cell of these rows narrows 'for every input' (looked for: loops, veiled, ifaces, maps, wideKeys, modest, calm, conditions, laid).
  DERIVED. THE GIVEN ROWS OF THIS SEAT. 4 by the template 'for every input the law returns true; each argument reads behind the call as it read before'; 0 by the template 'total and deterministic' (their statements: YtdbpbchhkdconaaTotals.lean).
  GIVEN WITH THE SEED: the statements are not yours to turn. If you find one false, say at which input.
  Laid BY PROGRAM, IN A SANDBOX (cutbox-rows.mjs): the forced cells as the released guide's own fill.sh prints them over the translation 48b2af234b09d139… (all of the seat's roots in one cut). By AI agents, Wed Nov 11 2026. No macro, syntax, notation, axiom, sorry.
-/
import Derived.Test.YtdbpbchhkdconaaChecked
import GoSem.Claim
import GoSem.ClaimJoined
import GoSem.ClaimMapViews
import Derived.JoinedTies
import Derived.KernelRfl
namespace Go.Proofs.Ytdbpbchhkdconaa
/- THE CELL 'sum', in the pinned program and in every row, IS THE sha256 OF THE DUMP (.gsa) THAT YtdbpbchhkdconaaProg.lean LOADS. Nothing in Lean hashes anything: it is a label: what it is worth is what the hold of that sum in a sandbox is worth. -/
noncomputable def Try.pinned : Pinned := { name := "ytdbpbchhkdconaa", sum := "48b2af234b09d13919906aa23b10640be70eda18428f14f37abf05d9133c6259", checked := Try.checked }
namespace Rows
def none {H : Type} : Left H := { results := [], args := [] }

/-- 'corollarylaw11.SccOrders': WHATEVER THE INPUT: true; the input reads as it did. -/
def sccOrdersSpec : ChangeSpec := { name := "sccOrders", fn := fun _ => fun
  | [d] => { results := [.lit (.bool true)], args := [d] }
  | _ => none }
def sccOrdersRow : OpenClaim := { program := "ytdbpbchhkdconaa", sum := "48b2af234b09d13919906aa23b10640be70eda18428f14f37abf05d9133c6259", func := "corollary/corollarylaw11.SccOrders", spec := "sccOrders", unfollowed := true, recurses := true, apart := false }
def SccOrdersSaid : Prop := sccOrdersRow.holds Try.pinned (OpenSpec.ofChange sccOrdersSpec)

/-- ITS FALSE NEIGHBOUR: 'it returns false'. Refute it at one input. -/
def sccOrdersWrong : ChangeSpec := { name := "sccOrders", fn := fun _ => fun
  | [d] => { results := [.lit (.bool false)], args := [d] }
  | _ => none }
def SccOrdersWrongFalsely : Prop := sccOrdersRow.holds Try.pinned (OpenSpec.ofChange sccOrdersWrong)

/-- 'corollarylaw11.SccComponents': WHATEVER THE INPUT: true; the input reads as it did. -/
def sccComponentsSpec : ChangeSpec := { name := "sccComponents", fn := fun _ => fun
  | [d] => { results := [.lit (.bool true)], args := [d] }
  | _ => none }
def sccComponentsRow : OpenClaim := { program := "ytdbpbchhkdconaa", sum := "48b2af234b09d13919906aa23b10640be70eda18428f14f37abf05d9133c6259", func := "corollary/corollarylaw11.SccComponents", spec := "sccComponents", unfollowed := true, recurses := true, apart := false }
def SccComponentsSaid : Prop := sccComponentsRow.holds Try.pinned (OpenSpec.ofChange sccComponentsSpec)

/-- ITS FALSE NEIGHBOUR: 'it returns false'. Refute it at one input. -/
def sccComponentsWrong : ChangeSpec := { name := "sccComponents", fn := fun _ => fun
  | [d] => { results := [.lit (.bool false)], args := [d] }
  | _ => none }
def SccComponentsWrongFalsely : Prop := sccComponentsRow.holds Try.pinned (OpenSpec.ofChange sccComponentsWrong)

/-- 'corollarylaw11.SccNodes': WHATEVER THE INPUT: true; the input reads as it did. -/
def sccNodesSpec : ChangeSpec := { name := "sccNodes", fn := fun _ => fun
  | [d1, d2, d3] => { results := [.lit (.bool true)], args := [d1, d2, d3] }
  | _ => none }
def sccNodesRow : OpenClaim := { program := "ytdbpbchhkdconaa", sum := "48b2af234b09d13919906aa23b10640be70eda18428f14f37abf05d9133c6259", func := "corollary/corollarylaw11.SccNodes", spec := "sccNodes", unfollowed := true, recurses := true, apart := false }
def SccNodesSaid : Prop := sccNodesRow.holds Try.pinned (OpenSpec.ofChange sccNodesSpec)

/-- ITS FALSE NEIGHBOUR: 'it returns false'. Refute it at one input. -/
def sccNodesWrong : ChangeSpec := { name := "sccNodes", fn := fun _ => fun
  | [d1, d2, d3] => { results := [.lit (.bool false)], args := [d1, d2, d3] }
  | _ => none }
def SccNodesWrongFalsely : Prop := sccNodesRow.holds Try.pinned (OpenSpec.ofChange sccNodesWrong)

/-- 'corollarylaw11.SccTurned': WHATEVER THE INPUT: true; the input reads as it did. -/
def sccTurnedSpec : ChangeSpec := { name := "sccTurned", fn := fun _ => fun
  | [d] => { results := [.lit (.bool true)], args := [d] }
  | _ => none }
def sccTurnedRow : OpenClaim := { program := "ytdbpbchhkdconaa", sum := "48b2af234b09d13919906aa23b10640be70eda18428f14f37abf05d9133c6259", func := "corollary/corollarylaw11.SccTurned", spec := "sccTurned", unfollowed := true, recurses := true, apart := false }
def SccTurnedSaid : Prop := sccTurnedRow.holds Try.pinned (OpenSpec.ofChange sccTurnedSpec)

/-- ITS FALSE NEIGHBOUR: 'it returns false'. Refute it at one input. -/
def sccTurnedWrong : ChangeSpec := { name := "sccTurned", fn := fun _ => fun
  | [d] => { results := [.lit (.bool false)], args := [d] }
  | _ => none }
def SccTurnedWrongFalsely : Prop := sccTurnedRow.holds Try.pinned (OpenSpec.ofChange sccTurnedWrong)

/- THE SECOND FORM. 'bulk': how many values and letters a reading holds, each counted each time it is reached (what is shared counts as often as it is met; a slice's spare places count too). A statement '..UptoSaid' is the law's where the arguments, and the package variables that the reading takes, are together of bulk at most 1048576: NARROWER than '..Said'. Prove '..Said' where nothing that the law and all that it calls make is longer than what came in: it says more and counts as full. Else prove '..UptoSaid'. A law counts once. -/
mutual
def uptoBulk {H : Type} : DataW H → Nat
  | .lit (.string bytes) => bytes.length + 1
  | .lit _ => 1
  | .nil => 1
  | .ptr d => uptoBulk d + 1
  | .slice elems spare => uptoBulkAll elems + uptoBulkAll spare + 1
  | .agg parts => uptoBulkAll parts + 1
  | .iface _ d => uptoBulk d + 1
  | .map entries => uptoBulkEntries entries + 1
  | .held _ => 1
def uptoBulkAll {H : Type} : List (DataW H) → Nat
  | [] => 0
  | d :: r => uptoBulk d + uptoBulkAll r
def uptoBulkEntries {H : Type} : List (Lit × DataW H) → Nat
  | [] => 0
  | x :: r => uptoBulkEntry x + uptoBulkEntries r
def uptoBulkEntry {H : Type} : Lit × DataW H → Nat
  | (.string bytes, d) => bytes.length + uptoBulk d + 1
  | (_, d) => uptoBulk d + 1
 end
def uptoSmall : (H : Type) → List (DataW H) → Bool := fun _ ds => decide (uptoBulkAll ds ≤ 1048576)
def OpenSpec.upto (s : _root_.Go.ChangeSpec) : _root_.Go.OpenSpec := { _root_.Go.OpenSpec.ofChange s with cond := some uptoSmall }

/-- 'corollarylaw11.SccOrders', WHERE WHAT IT READS IS OF BULK AT MOST 1048576: true; the input reads as it did. -/
def sccOrdersUptoRow : OpenClaim := { program := "ytdbpbchhkdconaa", sum := "48b2af234b09d13919906aa23b10640be70eda18428f14f37abf05d9133c6259", func := "corollary/corollarylaw11.SccOrders", spec := "sccOrders", unfollowed := true, recurses := true, apart := false, narrowed := true }
def SccOrdersUptoSaid : Prop := sccOrdersUptoRow.holds Try.pinned (OpenSpec.upto sccOrdersSpec)

/-- 'corollarylaw11.SccComponents', WHERE WHAT IT READS IS OF BULK AT MOST 1048576: true; the input reads as it did. -/
def sccComponentsUptoRow : OpenClaim := { program := "ytdbpbchhkdconaa", sum := "48b2af234b09d13919906aa23b10640be70eda18428f14f37abf05d9133c6259", func := "corollary/corollarylaw11.SccComponents", spec := "sccComponents", unfollowed := true, recurses := true, apart := false, narrowed := true }
def SccComponentsUptoSaid : Prop := sccComponentsUptoRow.holds Try.pinned (OpenSpec.upto sccComponentsSpec)

/-- 'corollarylaw11.SccNodes', WHERE WHAT IT READS IS OF BULK AT MOST 1048576: true; the input reads as it did. -/
def sccNodesUptoRow : OpenClaim := { program := "ytdbpbchhkdconaa", sum := "48b2af234b09d13919906aa23b10640be70eda18428f14f37abf05d9133c6259", func := "corollary/corollarylaw11.SccNodes", spec := "sccNodes", unfollowed := true, recurses := true, apart := false, narrowed := true }
def SccNodesUptoSaid : Prop := sccNodesUptoRow.holds Try.pinned (OpenSpec.upto sccNodesSpec)

/-- 'corollarylaw11.SccTurned', WHERE WHAT IT READS IS OF BULK AT MOST 1048576: true; the input reads as it did. -/
def sccTurnedUptoRow : OpenClaim := { program := "ytdbpbchhkdconaa", sum := "48b2af234b09d13919906aa23b10640be70eda18428f14f37abf05d9133c6259", func := "corollary/corollarylaw11.SccTurned", spec := "sccTurned", unfollowed := true, recurses := true, apart := false, narrowed := true }
def SccTurnedUptoSaid : Prop := sccTurnedUptoRow.holds Try.pinned (OpenSpec.upto sccTurnedSpec)

end Rows
end Go.Proofs.Ytdbpbchhkdconaa
