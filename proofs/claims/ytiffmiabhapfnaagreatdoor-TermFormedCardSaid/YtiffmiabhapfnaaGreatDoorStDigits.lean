/- corollaryref01.Digits: the decimal numeral. -/
import Derived.Test.YtiffmiabhapfnaaGreatDoorTab
namespace Go.Proofs.YtiffmiabhapfnaaGreatDoor
open Go.RowKit

def RetStr (l : List UInt8) (w : World) (e : Ending) (w' : World) : Prop := ∃ s : ByteArray, Hid (s = ⟨l.toArray⟩) ∧ s.size ≤ 21 ∧ e = .returned (.string s) ∧ w' = w
theorem fits_iff (n : Int) : fits n ↔ -9223372036854775808 ≤ n ∧ n ≤ 9223372036854775807 := by
  unfold fits; simp [Lit.wf, IntKind.min, IntKind.max, IntKind.signed, IntKind.bits]

end Go.Proofs.YtiffmiabhapfnaaGreatDoor
