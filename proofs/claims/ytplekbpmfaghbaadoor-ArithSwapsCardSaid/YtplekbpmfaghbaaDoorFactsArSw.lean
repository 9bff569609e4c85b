/- ArithSwaps: the closed facts of the row, each as a declaration of its own. -/
import Derived.Test.YtplekbpmfaghbaaDoorRows
import Derived.JoinedOf
namespace Go.Proofs.YtplekbpmfaghbaaDoor

set_option maxHeartbeats 4000000 in
theorem closedF : joinedFacts Tryd.prog 3 Tryd.f3 Rows.arithSwapsSpec Rows.arithSwapsRow = true := by
  unfold joinedFacts
  simp only [Bool.and_eq_true]
  repeat' (with_reducible refine And.intro ?_ ?_)
  all_goals (as_aux_lemma => kernel_rfl)
end Go.Proofs.YtplekbpmfaghbaaDoor
