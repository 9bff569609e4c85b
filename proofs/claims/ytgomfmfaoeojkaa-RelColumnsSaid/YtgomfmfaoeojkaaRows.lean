/-
  No cell of these rows narrows 'for every input' (looked for: loops, veiled, ifaces, maps, wideKeys, modest, calm, conditions, laid).
  DERIVED. THE GIVEN ROWS OF THIS SEAT. 5 by the template 'for every input the law returns true; each argument reads behind the call as it read before'; 0 by the template 'total and deterministic' (their statements: YtgomfmfaoeojkaaTotals.lean).
  GIVEN WITH THE SEED: the statements are not yours to turn. If you find one false, say at which input.
  Laid BY PROGRAM, IN A SANDBOX (cutbox-rows.mjs): the forced cells as the released guide's own fill.sh prints them over the translation 5719f3537b4a9bb2… (all of the seat's roots in one cut). By AI agents, Wed Nov 11 2026. No macro, syntax, notation, axiom, sorry.
-/
import Derived.Test.YtgomfmfaoeojkaaChecked
import GoSem.Claim
import GoSem.ClaimJoined
import GoSem.ClaimMapViews
import Derived.JoinedTies
import Derived.KernelRfl
namespace Go.Proofs.Ytgomfmfaoeojkaa
/- THE CELL 'sum', in the pinned program and in every row, IS THE sha256 OF THE DUMP (.gsa) THAT YtgomfmfaoeojkaaProg.lean LOADS. Nothing in Lean hashes anything: it is a label: what it is worth is what the hold of that sum in a sandbox is worth. -/
noncomputable def Try.pinned : Pinned := { name := "ytgomfmfaoeojkaa", sum := "5719f3537b4a9bb2ba4a25abc24f3ff852ba7ffeaf6152c396e4fecd6257ad1d", checked := Try.checked }
namespace Rows
def none {H : Type} : Left H := { results := [], args := [] }

/-- 'corollarylaw03.RelWalks': WHATEVER THE INPUT: true; the input reads as it did. -/
def relWalksSpec : ChangeSpec := { name := "relWalks", fn := fun _ => fun
  | [d1, d2] => { results := [.lit (.bool true)], args := [d1, d2] }
  | _ => none }
def relWalksRow : OpenClaim := { program := "ytgomfmfaoeojkaa", sum := "5719f3537b4a9bb2ba4a25abc24f3ff852ba7ffeaf6152c396e4fecd6257ad1d", func := "corollary/corollarylaw03.RelWalks", spec := "relWalks", inPlace := ["slices.overlaps[corollary/api.Tuple]"], unfollowed := true, recurses := true, apart := false }
def RelWalksSaid : Prop := relWalksRow.holds Try.pinned (OpenSpec.ofChange relWalksSpec)

/-- ITS FALSE NEIGHBOUR: 'it returns false'. Refute it at one input. -/
def relWalksWrong : ChangeSpec := { name := "relWalks", fn := fun _ => fun
  | [d1, d2] => { results := [.lit (.bool false)], args := [d1, d2] }
  | _ => none }
def RelWalksWrongFalsely : Prop := relWalksRow.holds Try.pinned (OpenSpec.ofChange relWalksWrong)

/-- 'corollarylaw03.RelPlays': WHATEVER THE INPUT: true; the input reads as it did. -/
def relPlaysSpec : ChangeSpec := { name := "relPlays", fn := fun _ => fun
  | [d1, d2] => { results := [.lit (.bool true)], args := [d1, d2] }
  | _ => none }
def relPlaysRow : OpenClaim := { program := "ytgomfmfaoeojkaa", sum := "5719f3537b4a9bb2ba4a25abc24f3ff852ba7ffeaf6152c396e4fecd6257ad1d", func := "corollary/corollarylaw03.RelPlays", spec := "relPlays", inPlace := ["slices.overlaps[corollary/api.Tuple]"], unfollowed := true, recurses := true, apart := false }
def RelPlaysSaid : Prop := relPlaysRow.holds Try.pinned (OpenSpec.ofChange relPlaysSpec)

/-- ITS FALSE NEIGHBOUR: 'it returns false'. Refute it at one input. -/
def relPlaysWrong : ChangeSpec := { name := "relPlays", fn := fun _ => fun
  | [d1, d2] => { results := [.lit (.bool false)], args := [d1, d2] }
  | _ => none }
def RelPlaysWrongFalsely : Prop := relPlaysRow.holds Try.pinned (OpenSpec.ofChange relPlaysWrong)

/-- 'corollarylaw03.RelColumns': WHATEVER THE INPUT: true; the input reads as it did. -/
def relColumnsSpec : ChangeSpec := { name := "relColumns", fn := fun _ => fun
  | [d1, d2, d3] => { results := [.lit (.bool true)], args := [d1, d2, d3] }
  | _ => none }
def relColumnsRow : OpenClaim := { program := "ytgomfmfaoeojkaa", sum := "5719f3537b4a9bb2ba4a25abc24f3ff852ba7ffeaf6152c396e4fecd6257ad1d", func := "corollary/corollarylaw03.RelColumns", spec := "relColumns", inPlace := ["slices.overlaps[corollary/api.Tuple]"], unfollowed := true, recurses := true, apart := false }
def RelColumnsSaid : Prop := relColumnsRow.holds Try.pinned (OpenSpec.ofChange relColumnsSpec)

/-- ITS FALSE NEIGHBOUR: 'it returns false'. Refute it at one input. -/
def relColumnsWrong : ChangeSpec := { name := "relColumns", fn := fun _ => fun
  | [d1, d2, d3] => { results := [.lit (.bool false)], args := [d1, d2, d3] }
  | _ => none }
def RelColumnsWrongFalsely : Prop := relColumnsRow.holds Try.pinned (OpenSpec.ofChange relColumnsWrong)

/-- 'corollarylaw03.RelLaws': WHATEVER THE INPUT: true; the input reads as it did. -/
def relLawsSpec : ChangeSpec := { name := "relLaws", fn := fun _ => fun
  | [d1, d2, d3] => { results := [.lit (.bool true)], args := [d1, d2, d3] }
  | _ => none }
def relLawsRow : OpenClaim := { program := "ytgomfmfaoeojkaa", sum := "5719f3537b4a9bb2ba4a25abc24f3ff852ba7ffeaf6152c396e4fecd6257ad1d", func := "corollary/corollarylaw03.RelLaws", spec := "relLaws", inPlace := ["slices.overlaps[corollary/api.Tuple]"], unfollowed := true, recurses := true, apart := false }
def RelLawsSaid : Prop := relLawsRow.holds Try.pinned (OpenSpec.ofChange relLawsSpec)

/-- ITS FALSE NEIGHBOUR: 'it returns false'. Refute it at one input. -/
def relLawsWrong : ChangeSpec := { name := "relLaws", fn := fun _ => fun
  | [d1, d2, d3] => { results := [.lit (.bool false)], args := [d1, d2, d3] }
  | _ => none }
def RelLawsWrongFalsely : Prop := relLawsRow.holds Try.pinned (OpenSpec.ofChange relLawsWrong)

/-- 'corollarylaw03.RelSets': WHATEVER THE INPUT: true; the input reads as it did. -/
def relSetsSpec : ChangeSpec := { name := "relSets", fn := fun _ => fun
  | [d1, d2, d3] => { results := [.lit (.bool true)], args := [d1, d2, d3] }
  | _ => none }
def relSetsRow : OpenClaim := { program := "ytgomfmfaoeojkaa", sum := "5719f3537b4a9bb2ba4a25abc24f3ff852ba7ffeaf6152c396e4fecd6257ad1d", func := "corollary/corollarylaw03.RelSets", spec := "relSets", inPlace := ["slices.overlaps[corollary/api.Tuple]"], unfollowed := true, recurses := true, apart := false }
def RelSetsSaid : Prop := relSetsRow.holds Try.pinned (OpenSpec.ofChange relSetsSpec)

/-- ITS FALSE NEIGHBOUR: 'it returns false'. Refute it at one input. -/
def relSetsWrong : ChangeSpec := { name := "relSets", fn := fun _ => fun
  | [d1, d2, d3] => { results := [.lit (.bool false)], args := [d1, d2, d3] }
  | _ => none }
def RelSetsWrongFalsely : Prop := relSetsRow.holds Try.pinned (OpenSpec.ofChange relSetsWrong)

/- THE SECOND FORM. 'bulk': how many values and letters a reading holds, each counted each time it is reached (what is shared counts as often as it is met; a slice's spare places count too). A statement '..UptoSaid' is the law's where the arguments, and the package variables that the reading takes, are together of bulk at most 1048576: NARROWER than '..Said'. Prove '..Said' where nothing that the law and all that it calls make is longer than what came in: it says more and counts as full. Else prove '..UptoSaid'. A law counts once. -/
mutual
def uptoBulk {H : Type} : DataW H → Nat
  | .lit (.string bytes) => bytes.length + 1
  | .lit _ => 1
  | .nil => 1
  | .ptr d => uptoBulk d + 1
  | .slice elems spare => uptoBulkAll elems + uptoBulkAll spare + 1
  | .agg parts => uptoBulkAll parts + 1
  | .iface _ d => uptoBulk d + 1
  | .map entries => uptoBulkEntries entries + 1
  | .held _ => 1
def uptoBulkAll {H : Type} : List (DataW H) → Nat
  | [] => 0
  | d :: r => uptoBulk d + uptoBulkAll r
def uptoBulkEntries {H : Type} : List (Lit × DataW H) → Nat
  | [] => 0
  | x :: r => uptoBulkEntry x + uptoBulkEntries r
def uptoBulkEntry {H : Type} : Lit × DataW H → Nat
  | (.string bytes, d) => bytes.length + uptoBulk d + 1
  | (_, d) => uptoBulk d + 1
 end
def uptoSmall : (H : Type) → List (DataW H) → Bool := fun _ ds => decide (uptoBulkAll ds ≤ 1048576)
def OpenSpec.upto (s : _root_.Go.ChangeSpec) : _root_.Go.OpenSpec := { _root_.Go.OpenSpec.ofChange s with cond := some uptoSmall }

/-- 'corollarylaw03.RelWalks', WHERE WHAT IT READS IS OF BULK AT MOST 1048576: true; the input reads as it did. -/
def relWalksUptoRow : OpenClaim := { program := "ytgomfmfaoeojkaa", sum := "5719f3537b4a9bb2ba4a25abc24f3ff852ba7ffeaf6152c396e4fecd6257ad1d", func := "corollary/corollarylaw03.RelWalks", spec := "relWalks", inPlace := ["slices.overlaps[corollary/api.Tuple]"], unfollowed := true, recurses := true, apart := false, narrowed := true }
def RelWalksUptoSaid : Prop := relWalksUptoRow.holds Try.pinned (OpenSpec.upto relWalksSpec)

/-- 'corollarylaw03.RelPlays', WHERE WHAT IT READS IS OF BULK AT MOST 1048576: true; the input reads as it did. -/
def relPlaysUptoRow : OpenClaim := { program := "ytgomfmfaoeojkaa", sum := "5719f3537b4a9bb2ba4a25abc24f3ff852ba7ffeaf6152c396e4fecd6257ad1d", func := "corollary/corollarylaw03.RelPlays", spec := "relPlays", inPlace := ["slices.overlaps[corollary/api.Tuple]"], unfollowed := true, recurses := true, apart := false, narrowed := true }
def RelPlaysUptoSaid : Prop := relPlaysUptoRow.holds Try.pinned (OpenSpec.upto relPlaysSpec)

/-- 'corollarylaw03.RelColumns', WHERE WHAT IT READS IS OF BULK AT MOST 1048576: true; the input reads as it did. -/
def relColumnsUptoRow : OpenClaim := { program := "ytgomfmfaoeojkaa", sum := "5719f3537b4a9bb2ba4a25abc24f3ff852ba7ffeaf6152c396e4fecd6257ad1d", func := "corollary/corollarylaw03.RelColumns", spec := "relColumns", inPlace := ["slices.overlaps[corollary/api.Tuple]"], unfollowed := true, recurses := true, apart := false, narrowed := true }
def RelColumnsUptoSaid : Prop := relColumnsUptoRow.holds Try.pinned (OpenSpec.upto relColumnsSpec)

/-- 'corollarylaw03.RelLaws', WHERE WHAT IT READS IS OF BULK AT MOST 1048576: true; the input reads as it did. -/
def relLawsUptoRow : OpenClaim := { program := "ytgomfmfaoeojkaa", sum := "5719f3537b4a9bb2ba4a25abc24f3ff852ba7ffeaf6152c396e4fecd6257ad1d", func := "corollary/corollarylaw03.RelLaws", spec := "relLaws", inPlace := ["slices.overlaps[corollary/api.Tuple]"], unfollowed := true, recurses := true, apart := false, narrowed := true }
def RelLawsUptoSaid : Prop := relLawsUptoRow.holds Try.pinned (OpenSpec.upto relLawsSpec)

/-- 'corollarylaw03.RelSets', WHERE WHAT IT READS IS OF BULK AT MOST 1048576: true; the input reads as it did. -/
def relSetsUptoRow : OpenClaim := { program := "ytgomfmfaoeojkaa", sum := "5719f3537b4a9bb2ba4a25abc24f3ff852ba7ffeaf6152c396e4fecd6257ad1d", func := "corollary/corollarylaw03.RelSets", spec := "relSets", inPlace := ["slices.overlaps[corollary/api.Tuple]"], unfollowed := true, recurses := true, apart := false, narrowed := true }
def RelSetsUptoSaid : Prop := relSetsUptoRow.holds Try.pinned (OpenSpec.upto relSetsSpec)

end Rows
end Go.Proofs.Ytgomfmfaoeojkaa
