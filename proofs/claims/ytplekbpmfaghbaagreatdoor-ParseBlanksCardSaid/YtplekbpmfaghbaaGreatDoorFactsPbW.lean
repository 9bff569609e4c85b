/- ParseBlanks: the closed facts of the row, each as a declaration of its own. -/
import Derived.Test.YtplekbpmfaghbaaGreatDoorRows
import Derived.JoinedOf
namespace Go.Proofs.YtplekbpmfaghbaaGreatDoor

set_option maxHeartbeats 4000000 in
theorem closedF : joinedFacts Tryz.prog 6 Tryz.f6 Rows.parseBlanksSpec Rows.parseBlanksRow = true := by
  unfold joinedFacts
  simp only [Bool.and_eq_true]
  repeat' (with_reducible refine And.intro ?_ ?_)
  all_goals (as_aux_lemma => kernel_rfl)
end Go.Proofs.YtplekbpmfaghbaaGreatDoor
