/- corollarynum: errors as numbers, lists side by side (where they are alike). -/
import Derived.Test.YtplekbpmfaghbaaGreatDoorProg
import Derived.Test.YtplekbpmfaghbaaGreatDoorBase
namespace Go.Proofs.YtplekbpmfaghbaaGreatDoor
open Go.RowKit

def RetInt (n : Int) (w : World) (e : Ending) (w' : World) : Prop := e = .returned (.int .i64 n) ∧ Below w.heap.size w w'
def RetBool (b : Bool) (w : World) (e : Ending) (w' : World) : Prop := e = .returned (.bool b) ∧ Below w.heap.size w w'

set_option maxRecDepth 100000 in
set_option maxHeartbeats 400000 in
theorem num_any (n : Int) (w : World) : Calls Tryz.prog 42 #[errV 90 n] w (RetInt n w) := by
  by_cases h : n = 0
  · subst h
    simp only [errV, if_true]
    go_enter Tryz.func42, Tryz.ntmps42
    go_wp2
    go_ret
    exact ⟨rfl, Below.refl _ _⟩
  · simp only [errV, if_neg h]
    have h1 : ((n : Int) != 0) = true := by simp [h]
    have ta : ∀ w, (Instr.typeAssert (.iface 90 (.int .i64 n)) 57 90 true).run Tryz.prog w = .ok (.tuple #[.int .i64 n, .bool true]) w := fun _ => by kernel_rfl
    clear h
    go_enter Tryz.func42, Tryz.ntmps42
    go_wp2
    go_ret
    exact ⟨rfl, Below.refl _ _⟩

theorem GV.beq_iff (x y : GV) : x.beq y = true ↔ x = y := by
  cases x; cases y
  simp [GV.beq, toList_inj]
theorem GV.beq_self (x : GV) : x.beq x = true := (GV.beq_iff x x).2 rfl
instance : DecidableEq GV := fun x y => if h : x.beq y = true then isTrue ((GV.beq_iff x y).1 h) else isFalse (fun e => h ((GV.beq_iff x y).2 e))
theorem GV.beq_dec (x y : GV) : x.beq y = decide (x = y) := by
  rw [Bool.eq_iff_iff]; simp [GV.beq_iff]

theorem run_eql_value (x y : GV) (w : World) : (binOp .eql 31 x.v y.v).run Tryz.prog w = .ok (.bool (x.beq y)) w := by
  rw [run_eql_struct, run_equalIn_agg (ht := by kernel_rfl) (hp := by kernel_rfl)]
  simp [go_sem, GV.beq]
  by_cases h1 : x.k = y.k <;> by_cases h2 : x.n = y.n <;> by_cases h3 : x.s.toList = y.s.toList <;> simp [h1, h2, h3]
theorem run_neq_value (x y : GV) (w : World) : (binOp .neq 31 x.v y.v).run Tryz.prog w = .ok (.bool (!x.beq y)) w := by
  rw [run_neq_struct, run_equalIn_agg (ht := by kernel_rfl) (hp := by kernel_rfl)]
  simp [go_sem, GV.beq]
  by_cases h1 : x.k = y.k <;> by_cases h2 : x.n = y.n <;> by_cases h3 : x.s.toList = y.s.toList <;> simp [h1, h2, h3]


end Go.Proofs.YtplekbpmfaghbaaGreatDoor
