/- ArithEvals: the walk. Printed by wip/tools/gen_arev.py. -/
import Derived.Test.YtplekbpmfaghbaaGreatDoorArEvals1
import Derived.Test.YtplekbpmfaghbaaGreatDoorArEvals2
namespace Go.Proofs.YtplekbpmfaghbaaGreatDoor
open Go.RowKit

theorem arithEvals_walk (x : GExp) (A : Option Addr) (n c d : Nat) (B : Option Addr) (bn bc : Nat) (l : List GTold) (w : World) (hop : fits x.op) (hx : x.t.x.size ≤ reachN) (hv : x.t.v.ok) (hk : SliceIs (Enc.exp d) w w.heap.size A n c x.kids) (hl : SliceIs Enc.told w w.heap.size B bn bc l) (hW : ParW w) :
    Calls Tryz.prog 5 #[.agg #[.int .i64 x.op, .string x.t.x, .int .i64 x.t.v.k, .int .i64 x.t.v.n, .string x.t.v.s, .slice A n c], .slice B bn bc] w (RetBool true w) := by
  cases hr : rightE 20 x with
  | true => exact arithEvals_true x A n c d B bn bc l w hop hx hv hk hl hW hr
  | false => exact arithEvals_false x A n c d B bn bc l w hop hx hv hk hl hW hr
end Go.Proofs.YtplekbpmfaghbaaGreatDoor
