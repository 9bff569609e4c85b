/- ArithWhole: the walk. Printed by wip/tools/gen_arwh.py. -/
import Derived.Test.YtplekbpmfaghbaaGreatDoorArWhF
import Derived.Test.YtplekbpmfaghbaaGreatDoorArWhT
namespace Go.Proofs.YtplekbpmfaghbaaGreatDoor
open Go.RowKit

set_option maxRecDepth 100000 in
set_option maxHeartbeats 8000000 in
theorem arithWhole_walk (d : Nat) (x : GLit) (A : Option Addr) (n c : Nat) (P : Option Addr) (pn pc : Nat) (Q : Option Addr) (qn qc : Nat) (B : Option Addr) (bn bc : Nat) (l : List GTold) (w : World) (h : LitAt d w w.heap.size x ⟨A, n, c⟩ ⟨P, pn, pc⟩ ⟨Q, qn, qc⟩) (hl : SliceIs Enc.told w w.heap.size B bn bc l) (hW : ParW w) :
    Calls Tryz.prog 10 #[.agg #[.int .i64 x.k, .string x.atom.rel, .slice A n c, .int .i64 x.op, .int .i64 x.l.op, .string x.l.t.x, .int .i64 x.l.t.v.k, .int .i64 x.l.t.v.n, .string x.l.t.v.s, .slice P pn pc, .int .i64 x.r.op, .string x.r.t.x, .int .i64 x.r.t.v.k, .int .i64 x.r.t.v.n, .string x.r.t.v.s, .slice Q qn qc, .int .i64 x.pos], .slice B bn bc] w (RetBool true w) := by
  cases hqb : (solveT (getT l) x).2.1 with
  | false => exact arithWhole_false d x A n c P pn pc Q qn qc B bn bc l w h hl hW hqb
  | true => exact arithWhole_true d x A n c P pn pc Q qn qc B bn bc l w h hl hW hqb
end Go.Proofs.YtplekbpmfaghbaaGreatDoor
