/- two: do two relations go together? -/
import Derived.Test.YtgomfmfaoeojkaaRelRef
import Derived.Deep.RegionWith
namespace Go.Proofs.Ytgomfmfaoeojkaa
open Go.RowKit

def RetV (v : Value) (w : World) (e : Ending) (w' : World) : Prop := e = .returned v ∧ Below w.heap.size w w'
def relQ : Option Nat → Value
  | none => .pointer none
  | some p => relP p
set_option maxRecDepth 100000 in
theorem two_yes {w : World} {S S' : List Nat} {p q : Nat} {rb rb' : Option Nat} {ar : Int} {L M : List (List GV)} (h : RelAt w S p rb ar L) (h' : RelAt w S' q rb' ar M) : Calls Try.prog 54 #[relP p, relP q] w (RetV .nilIface w) := by
  obtain ⟨A, c, xs, h1, -⟩ := h.ex
  obtain ⟨A', c', xs', h1', -⟩ := h'.ex
  have c0 : w.cell? ⟨p, 0, none⟩ = some (.int .i64 ar) := (cell_of_row _ _ 0 _ _ _ h1).trans rfl
  have c0' : w.cell? ⟨q, 0, none⟩ = some (.int .i64 ar) := (cell_of_row _ _ 0 _ _ _ h1').trans rfl
  clear h h' h1 h1'
  unfold relP
  go_enter Try.func54, Try.ntmps54
  go_wp2_with fail
  go_region_with fail
  all_goals
    go_wp2_with fail
    go_ret
    exact ⟨rfl, Below.drew (Below.refl _ _)⟩
set_option maxRecDepth 100000 in
theorem two_none1 (v : Option Nat) (w : World) : Calls Try.prog 54 #[.pointer none, relQ v] w (RetV (.iface 45 (.int .i64 13)) w) := by
  cases v <;> unfold relQ
  · go_enter Try.func54, Try.ntmps54
    go_wp2_with fail
    go_ret
    exact ⟨rfl, Below.refl _ _⟩
  · unfold relP
    go_enter Try.func54, Try.ntmps54
    go_wp2_with fail
    go_ret
    exact ⟨rfl, Below.refl _ _⟩
set_option maxRecDepth 100000 in
theorem two_none2 (p : Nat) (w : World) : Calls Try.prog 54 #[relP p, .pointer none] w (RetV (.iface 45 (.int .i64 13)) w) := by
  unfold relP
  go_enter Try.func54, Try.ntmps54
  go_wp2_with fail
  go_ret
  exact ⟨rfl, Below.refl _ _⟩
end Go.Proofs.Ytgomfmfaoeojkaa
