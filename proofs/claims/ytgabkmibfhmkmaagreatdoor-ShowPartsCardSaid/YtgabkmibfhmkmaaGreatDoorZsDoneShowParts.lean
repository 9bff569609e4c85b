/- corollarylaw07.ShowParts returns true at every rule, literal and expression and leaves them as they were. Conditions: the three tables and two errors of the library and the five lists of texts that its row lists hold what their initialisers lay (the card ties them to the program text). -/
import Derived.Test.YtgabkmibfhmkmaaGreatDoorZs18
import Derived.Test.YtgabkmibfhmkmaaGreatDoorCards
import Derived.Test.YtgabkmibfhmkmaaGreatDoorTie
import Derived.SevenTiedAt
namespace Go.Proofs.YtgabkmibfhmkmaaGreatDoor
open Go.ChangeShapes Go.WideShapes Go.ChangeAt Go.RowKit
set_option linter.unusedVariables false

theorem over : Rows.showPartsRow.holds Tryz.pinned (OpenSpec.ofChange Rows.showPartsSpec) :=
  OpenClaim.holds_of_wide 4 Tryz.f4 rfl rfl rfl rfl rfl rfl rfl ⟨rfl, rfl, rfl, rfl, rfl⟩ rfl rfl rfl rfl rfl (by kernel_rfl) Tryz.func4 closedF
    (of_decide_eq_true (by kernel_rfl)) (by unfold Func.isWrapper; first | (rw [if_pos (by decide +kernel)]; kernel_rfl) | (rw [if_neg (by decide +kernel)]; exact ⟨rfl, rfl⟩))
    (fun os started H enc _ => lifted os started H enc)

/-- the card -/
theorem proved : Rows.ShowPartsCardSaid :=
  Claim7.holds_tied_plain_at .later [] [.data, .data, .data, .sentinel, .sentinel, .widerDeep, .data, .data, .data, .data] true (true, "d3bf363e3397618ac5f6ef62b1775c41fcd5f7fa43fb9b4df9f66bf4f3d62607") true
    over (fun _ h => by cases h) (by as_aux_lemma => kernel_rfl) (fun _ h => by cases h) showParts_row_tie rfl ⟨rfl, rfl⟩ (by as_aux_lemma => kernel_rfl) rfl
    (fun f fn hf hfn => by
      obtain rfl : f = 4 := Option.some.inj ((show Tryz.prog.funcNamed "corollary/corollarylaw07.ShowParts" = some 4 by as_aux_lemma => kernel_rfl).symm.trans hf) |>.symm
      obtain rfl : fn = Tryz.f4 := (Option.some.inj (Tryz.func4.symm.trans hfn)).symm
      refine ⟨by as_aux_lemma => kernel_rfl, fun j t ht => ?_⟩
      have hm : t ∈ Tryz.f4.params.toList := by
        obtain ⟨hlt, rfl⟩ := Array.getElem?_eq_some_iff.1 ht
        simp
      have hall : (Tryz.f4.params.toList.all fun t => Tryz.prog.wantsStandIn t == false) = true := by as_aux_lemma => kernel_rfl
      have hb := List.all_eq_true.1 hall t hm
      show Tryz.prog.wantsStandIn t = false
      simpa using hb)
    (by as_aux_lemma => kernel_rfl)
#print axioms proved
end Go.Proofs.YtgabkmibfhmkmaaGreatDoor
