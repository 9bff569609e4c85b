/- corollarynum: errors as numbers, lists side by side (where they are alike). -/
import Derived.Test.YtdbpbchhkdconaaProg
import Derived.Test.YtdbpbchhkdconaaBase
namespace Go.Proofs.Ytdbpbchhkdconaa
open Go.RowKit

def RetInt (n : Int) (w : World) (e : Ending) (w' : World) : Prop := e = .returned (.int .i64 n) ∧ Below w.heap.size w w'
def RetBool (b : Bool) (w : World) (e : Ending) (w' : World) : Prop := e = .returned (.bool b) ∧ Below w.heap.size w w'


theorem GV.beq_iff (x y : GV) : x.beq y = true ↔ x = y := by
  cases x; cases y
  simp [GV.beq, toList_inj]
theorem GV.beq_self (x : GV) : x.beq x = true := (GV.beq_iff x x).2 rfl
instance : DecidableEq GV := fun x y => if h : x.beq y = true then isTrue ((GV.beq_iff x y).1 h) else isFalse (fun e => h ((GV.beq_iff x y).2 e))
theorem GV.beq_dec (x y : GV) : x.beq y = decide (x = y) := by
  rw [Bool.eq_iff_iff]; simp [GV.beq_iff]


set_option maxRecDepth 100000 in
set_option maxHeartbeats 400000 in
theorem ints_eq (A B : Option Addr) (n m c d : Nat) (xs : List Int) (w : World) (hx : SliceIs Enc.int w w.heap.size A n c xs) (hy : SliceIs Enc.int w w.heap.size B m d xs) :
    Calls Try.prog 17 #[.slice A n c, .slice B m d] w (RetBool true w) := by
  have hn := hx.bound
  have hmn : m = n := by rw [← hx.1, ← hy.1]
  subst hmn
  go_enter Try.func17, Try.ntmps17
  go_wp2
  go_loopw [5, 13] (fun _ i wr => ∃ k : Nat, k ≤ m ∧ i = .int .i64 k ∧ (∃ q, wr = w.drewN q)) (fun _ i _ => m - (intOf i).toNat)
  case atStart => exact ⟨0, by omega, rfl, ⟨0, rfl⟩⟩
  case round =>
    obtain ⟨k, hk, rfl, ⟨q, rfl⟩⟩ := hrel
    by_cases hlt : k < m
    · obtain ⟨b1, o1, v1, rfl, _, h1, x1, _⟩ := hx.int_at hlt
      obtain ⟨b2, o2, v2, rfl, _, h2, y1, _⟩ := hy.int_at hlt
      have hv : v1 = v2 := by have := h1.out.symm.trans h2.out; injection this
      subst hv
      have i0 : (0:Int) ≤ (k : Int) := by omega
      have i1 : (k:Int) < (m : Int) := by omega
      have rn : (v1 != v1) = false := by simp
      clear hx hy
      go_wp2
      go_quiet (fail)
      go_wp2
      go_roundw
      case rel => exact ⟨k + 1, by omega, by go_num, ⟨q + nq, rfl⟩⟩
      case measure => simp [intOf]; omega
    · go_wp2
      go_ret
      exact ⟨rfl, below_drewN _ _ _⟩

end Go.Proofs.Ytdbpbchhkdconaa
