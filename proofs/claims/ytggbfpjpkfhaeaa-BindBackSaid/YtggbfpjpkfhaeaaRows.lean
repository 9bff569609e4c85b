/-
  No cell of these rows narrows 'for every input' (looked for: loops, veiled, ifaces, maps, wideKeys, modest, calm, conditions, laid).
  DERIVED. THE GIVEN ROWS OF THIS SEAT. 4 by the template 'for every input the law returns true; each argument reads behind the call as it read before'; 0 by the template 'total and deterministic' (their statements: YtggbfpjpkfhaeaaTotals.lean).
  GIVEN WITH THE SEED: the statements are not yours to turn. If you find one false, say at which input.
  Laid BY PROGRAM, IN A SANDBOX (cutbox-rows.mjs): the forced cells as the released guide's own fill.sh prints them over the translation d9f1e8d77679e0a6… (all of the seat's roots in one cut). By AI agents, Wed Nov 11 2026. No macro, syntax, notation, axiom, sorry.
-/
import Derived.Test.YtggbfpjpkfhaeaaChecked
import GoSem.Claim
import GoSem.ClaimJoined
import GoSem.ClaimMapViews
import Derived.JoinedTies
import Derived.KernelRfl
namespace Go.Proofs.Ytggbfpjpkfhaeaa
/- THE CELL 'sum', in the pinned program and in every row, IS THE sha256 OF THE DUMP (.gsa) THAT YtggbfpjpkfhaeaaProg.lean LOADS. Nothing in Lean hashes anything: it is a label: what it is worth is what the hold of that sum in a sandbox is worth. -/
noncomputable def Try.pinned : Pinned := { name := "ytggbfpjpkfhaeaa", sum := "d9f1e8d77679e0a686f27c45fe2e1de32cab6e7af72cffa6493ea83b3e18081b", checked := Try.checked }
namespace Rows
def none {H : Type} : Left H := { results := [], args := [] }

/-- 'corollarylaw14.BindRows': WHATEVER THE INPUT: true; the input reads as it did. -/
def bindRowsSpec : ChangeSpec := { name := "bindRows", fn := fun _ => fun
  | [d1, d2, d3] => { results := [.lit (.bool true)], args := [d1, d2, d3] }
  | _ => none }
def bindRowsRow : OpenClaim := { program := "ytggbfpjpkfhaeaa", sum := "d9f1e8d77679e0a686f27c45fe2e1de32cab6e7af72cffa6493ea83b3e18081b", func := "corollary/corollarylaw14.BindRows", spec := "bindRows", unfollowed := true, recurses := true, apart := false }
def BindRowsSaid : Prop := bindRowsRow.holds Try.pinned (OpenSpec.ofChange bindRowsSpec)

/-- ITS FALSE NEIGHBOUR: 'it returns false'. Refute it at one input. -/
def bindRowsWrong : ChangeSpec := { name := "bindRows", fn := fun _ => fun
  | [d1, d2, d3] => { results := [.lit (.bool false)], args := [d1, d2, d3] }
  | _ => none }
def BindRowsWrongFalsely : Prop := bindRowsRow.holds Try.pinned (OpenSpec.ofChange bindRowsWrong)

/-- 'corollarylaw14.BindMeets': WHATEVER THE INPUT: true; the input reads as it did. -/
def bindMeetsSpec : ChangeSpec := { name := "bindMeets", fn := fun _ => fun
  | [d1, d2, d3] => { results := [.lit (.bool true)], args := [d1, d2, d3] }
  | _ => none }
def bindMeetsRow : OpenClaim := { program := "ytggbfpjpkfhaeaa", sum := "d9f1e8d77679e0a686f27c45fe2e1de32cab6e7af72cffa6493ea83b3e18081b", func := "corollary/corollarylaw14.BindMeets", spec := "bindMeets", unfollowed := true, recurses := true, apart := false }
def BindMeetsSaid : Prop := bindMeetsRow.holds Try.pinned (OpenSpec.ofChange bindMeetsSpec)

/-- ITS FALSE NEIGHBOUR: 'it returns false'. Refute it at one input. -/
def bindMeetsWrong : ChangeSpec := { name := "bindMeets", fn := fun _ => fun
  | [d1, d2, d3] => { results := [.lit (.bool false)], args := [d1, d2, d3] }
  | _ => none }
def BindMeetsWrongFalsely : Prop := bindMeetsRow.holds Try.pinned (OpenSpec.ofChange bindMeetsWrong)

/-- 'corollarylaw14.BindColumns': WHATEVER THE INPUT: true; the input reads as it did. -/
def bindColumnsSpec : ChangeSpec := { name := "bindColumns", fn := fun _ => fun
  | [d1, d2, d3] => { results := [.lit (.bool true)], args := [d1, d2, d3] }
  | _ => none }
def bindColumnsRow : OpenClaim := { program := "ytggbfpjpkfhaeaa", sum := "d9f1e8d77679e0a686f27c45fe2e1de32cab6e7af72cffa6493ea83b3e18081b", func := "corollary/corollarylaw14.BindColumns", spec := "bindColumns", unfollowed := true, recurses := true, apart := false }
def BindColumnsSaid : Prop := bindColumnsRow.holds Try.pinned (OpenSpec.ofChange bindColumnsSpec)

/-- ITS FALSE NEIGHBOUR: 'it returns false'. Refute it at one input. -/
def bindColumnsWrong : ChangeSpec := { name := "bindColumns", fn := fun _ => fun
  | [d1, d2, d3] => { results := [.lit (.bool false)], args := [d1, d2, d3] }
  | _ => none }
def BindColumnsWrongFalsely : Prop := bindColumnsRow.holds Try.pinned (OpenSpec.ofChange bindColumnsWrong)

/-- 'corollarylaw14.BindBack': WHATEVER THE INPUT: true; the input reads as it did. -/
def bindBackSpec : ChangeSpec := { name := "bindBack", fn := fun _ => fun
  | [d1, d2, d3] => { results := [.lit (.bool true)], args := [d1, d2, d3] }
  | _ => none }
def bindBackRow : OpenClaim := { program := "ytggbfpjpkfhaeaa", sum := "d9f1e8d77679e0a686f27c45fe2e1de32cab6e7af72cffa6493ea83b3e18081b", func := "corollary/corollarylaw14.BindBack", spec := "bindBack", unfollowed := true, recurses := true, apart := false }
def BindBackSaid : Prop := bindBackRow.holds Try.pinned (OpenSpec.ofChange bindBackSpec)

/-- ITS FALSE NEIGHBOUR: 'it returns false'. Refute it at one input. -/
def bindBackWrong : ChangeSpec := { name := "bindBack", fn := fun _ => fun
  | [d1, d2, d3] => { results := [.lit (.bool false)], args := [d1, d2, d3] }
  | _ => none }
def BindBackWrongFalsely : Prop := bindBackRow.holds Try.pinned (OpenSpec.ofChange bindBackWrong)

/- THE SECOND FORM. 'bulk': how many values and letters a reading holds, each counted each time it is reached (what is shared counts as often as it is met; a slice's spare places count too). A statement '..UptoSaid' is the law's where the arguments, and the package variables that the reading takes, are together of bulk at most 1048576: NARROWER than '..Said'. Prove '..Said' where nothing that the law and all that it calls make is longer than what came in: it says more and counts as full. Else prove '..UptoSaid'. A law counts once. -/
mutual
def uptoBulk {H : Type} : DataW H → Nat
  | .lit (.string bytes) => bytes.length + 1
  | .lit _ => 1
  | .nil => 1
  | .ptr d => uptoBulk d + 1
  | .slice elems spare => uptoBulkAll elems + uptoBulkAll spare + 1
  | .agg parts => uptoBulkAll parts + 1
  | .iface _ d => uptoBulk d + 1
  | .map entries => uptoBulkEntries entries + 1
  | .held _ => 1
def uptoBulkAll {H : Type} : List (DataW H) → Nat
  | [] => 0
  | d :: r => uptoBulk d + uptoBulkAll r
def uptoBulkEntries {H : Type} : List (Lit × DataW H) → Nat
  | [] => 0
  | x :: r => uptoBulkEntry x + uptoBulkEntries r
def uptoBulkEntry {H : Type} : Lit × DataW H → Nat
  | (.string bytes, d) => bytes.length + uptoBulk d + 1
  | (_, d) => uptoBulk d + 1
 end
def uptoSmall : (H : Type) → List (DataW H) → Bool := fun _ ds => decide (uptoBulkAll ds ≤ 1048576)
def OpenSpec.upto (s : _root_.Go.ChangeSpec) : _root_.Go.OpenSpec := { _root_.Go.OpenSpec.ofChange s with cond := some uptoSmall }

/-- 'corollarylaw14.BindRows', WHERE WHAT IT READS IS OF BULK AT MOST 1048576: true; the input reads as it did. -/
def bindRowsUptoRow : OpenClaim := { program := "ytggbfpjpkfhaeaa", sum := "d9f1e8d77679e0a686f27c45fe2e1de32cab6e7af72cffa6493ea83b3e18081b", func := "corollary/corollarylaw14.BindRows", spec := "bindRows", unfollowed := true, recurses := true, apart := false, narrowed := true }
def BindRowsUptoSaid : Prop := bindRowsUptoRow.holds Try.pinned (OpenSpec.upto bindRowsSpec)

/-- 'corollarylaw14.BindMeets', WHERE WHAT IT READS IS OF BULK AT MOST 1048576: true; the input reads as it did. -/
def bindMeetsUptoRow : OpenClaim := { program := "ytggbfpjpkfhaeaa", sum := "d9f1e8d77679e0a686f27c45fe2e1de32cab6e7af72cffa6493ea83b3e18081b", func := "corollary/corollarylaw14.BindMeets", spec := "bindMeets", unfollowed := true, recurses := true, apart := false, narrowed := true }
def BindMeetsUptoSaid : Prop := bindMeetsUptoRow.holds Try.pinned (OpenSpec.upto bindMeetsSpec)

/-- 'corollarylaw14.BindColumns', WHERE WHAT IT READS IS OF BULK AT MOST 1048576: true; the input reads as it did. -/
def bindColumnsUptoRow : OpenClaim := { program := "ytggbfpjpkfhaeaa", sum := "d9f1e8d77679e0a686f27c45fe2e1de32cab6e7af72cffa6493ea83b3e18081b", func := "corollary/corollarylaw14.BindColumns", spec := "bindColumns", unfollowed := true, recurses := true, apart := false, narrowed := true }
def BindColumnsUptoSaid : Prop := bindColumnsUptoRow.holds Try.pinned (OpenSpec.upto bindColumnsSpec)

/-- 'corollarylaw14.BindBack', WHERE WHAT IT READS IS OF BULK AT MOST 1048576: true; the input reads as it did. -/
def bindBackUptoRow : OpenClaim := { program := "ytggbfpjpkfhaeaa", sum := "d9f1e8d77679e0a686f27c45fe2e1de32cab6e7af72cffa6493ea83b3e18081b", func := "corollary/corollarylaw14.BindBack", spec := "bindBack", unfollowed := true, recurses := true, apart := false, narrowed := true }
def BindBackUptoSaid : Prop := bindBackUptoRow.holds Try.pinned (OpenSpec.upto bindBackSpec)

end Rows
end Go.Proofs.Ytggbfpjpkfhaeaa
