/- corollarylaw13.ArithSwaps returns true at every two numbers. Conditions: the three tables and two errors of the library and the five lists of texts that its row lists hold what their initialisers lay (the card ties them to the program text). -/
import Derived.Test.YtplekbpmfaghbaaDoorLiftArSw
import Derived.Test.YtplekbpmfaghbaaDoorFactsArSw
import Derived.Test.YtplekbpmfaghbaaDoorCards
import Derived.Test.YtplekbpmfaghbaaDoorTie
import Derived.SevenTiedAt
namespace Go.Proofs.YtplekbpmfaghbaaDoor
open Go.ChangeShapes Go.WideShapes Go.ChangeAt Go.RowKit
set_option linter.unusedVariables false

theorem over : Rows.arithSwapsRow.holds Tryd.pinned (OpenSpec.ofChange Rows.arithSwapsSpec) :=
  OpenClaim.holds_of_wide 3 Tryd.f3 rfl rfl rfl rfl rfl rfl rfl ⟨rfl, rfl, rfl, rfl, rfl⟩ rfl rfl rfl rfl rfl (by kernel_rfl) Tryd.func3 closedF
    (of_decide_eq_true (by kernel_rfl)) (by unfold Func.isWrapper; first | (rw [if_pos (by decide +kernel)]; kernel_rfl) | (rw [if_neg (by decide +kernel)]; exact ⟨rfl, rfl⟩))
    (fun os started H enc _ => lifted os started H enc)

/-- the card -/
theorem proved : Rows.ArithSwapsCardSaid :=
  Claim7.holds_tied_plain_at .later [] [.data, .data, .data, .sentinel, .sentinel, .widerDeep, .data, .widerDeep, .widerDeep] true (true, "0326847d3fce14d0c820c3d2bd3a4fd2d8df3f4bb9e493af1f040ff44bbf5b45") true
    over (fun _ h => by cases h) (by kernel_rfl) (fun _ h => by cases h) arithSwaps_row_tie rfl ⟨rfl, rfl⟩ (by kernel_rfl) rfl
    (fun f fn hf hfn => by
      obtain rfl : f = 3 := Option.some.inj ((show Tryd.prog.funcNamed "corollary/corollarylaw13.ArithSwaps" = some 3 by kernel_rfl).symm.trans hf) |>.symm
      obtain rfl : fn = Tryd.f3 := (Option.some.inj (Tryd.func3.symm.trans hfn)).symm
      refine ⟨by kernel_rfl, fun j t ht => ?_⟩
      have hm : t ∈ Tryd.f3.params.toList := by
        obtain ⟨hlt, rfl⟩ := Array.getElem?_eq_some_iff.1 ht
        simp
      have hall : (Tryd.f3.params.toList.all fun t => Tryd.prog.wantsStandIn t == false) = true := by kernel_rfl
      have hb := List.all_eq_true.1 hall t hm
      show Tryd.prog.wantsStandIn t = false
      simpa using hb)
    (by kernel_rfl)
#print axioms proved
end Go.Proofs.YtplekbpmfaghbaaDoor
