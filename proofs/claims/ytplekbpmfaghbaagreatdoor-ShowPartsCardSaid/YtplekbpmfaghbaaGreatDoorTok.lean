/- two tokens held against each other -/
import Derived.Test.YtplekbpmfaghbaaGreatDoorLexL
namespace Go.Proofs.YtplekbpmfaghbaaGreatDoor
open Go.RowKit

def tokEq (x y : GTok) : Bool := decide (x.k = y.k) && (decide (x.t = y.t) && decide (x.a = y.a))
theorem run_eql_token (x y : GTok) (w : World) : (binOp .eql 242 (tokC x) (tokC y)).run Tryz.prog w = .ok (.bool (tokEq x y)) w := by
  unfold tokC
  rw [run_eql_struct, run_equalIn_agg (ht := by kernel_rfl) (hp := by kernel_rfl)]
  have e1 : (bytes x.t).toList = x.t := toList_mk _
  have e2 : (bytes y.t).toList = y.t := toList_mk _
  simp [go_sem, tokEq, e1, e2]
  by_cases h1 : x.k = y.k <;> by_cases h2 : x.t = y.t <;> by_cases h3 : x.a = y.a <;> simp [h1, h2, h3] <;> omega
end Go.Proofs.YtplekbpmfaghbaaGreatDoor
