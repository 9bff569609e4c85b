/- All: the closure that goes through a relation. -/
import Derived.Test.YtgomfmfaoeojkaaRelRef
namespace Go.Proofs.Ytgomfmfaoeojkaa
open Go.RowKit

/-- the closure of kept, with the receiver's box at block g and the keep function's behind it -/
def keptV (g : Nat) : Value := .func (.func 60) #[] #[.pointer (some ⟨g, 0, none⟩), .pointer (some ⟨g + 1, 0, none⟩)]
def allFn : Value := .func (.func 41) #[] #[]
def AllPost (v : Value) (w : World) (e : Ending) (w' : World) : Prop := Below w.heap.size w w' ∧ ∃ g, w.heap.size ≤ g ∧ e = .returned (keptV g) ∧ w'.cell? ⟨g, 0, none⟩ = some v ∧ w'.cell? ⟨g + 1, 0, none⟩ = some allFn
set_option maxRecDepth 100000 in
theorem all_any (p : Nat) (w : World) : Calls Try.prog 14 #[relP p] w (AllPost (relP p) w) := by
  unfold relP
  go_enter Try.func14, Try.ntmps14
  go_wp2
  go_ret
  refine ⟨belowA (belowA (Below.refl _ _) _) _, w.heap.size, Nat.le_refl _, rfl, ?_, ?_⟩
  · exact cellA ((cell_of_row _ _ 0 _ _ _ (heapNew (w := w) rfl)).trans rfl)
  · exact (cell_of_row _ _ 0 _ _ _ (heapNew (by simp))).trans rfl
set_option maxRecDepth 100000 in
theorem keepAll_any (v : Value) (w : World) : Calls Try.prog 41 #[v] w (RetSameB true w) := by
  go_enter Try.func41, Try.ntmps41
  go_wp2
  go_ret
  exact ⟨rfl, rfl⟩
end Go.Proofs.Ytgomfmfaoeojkaa
