/- corollarylaw08.TypesChecks corollarylaw08.TypesChecks returns true at every program. Conditions: the three tables and two errors of the library and the five lists of texts that its row lists hold what their initialisers lay (the card ties them to the program text).. Conditions: the three tables and two errors of the library and the five lists of texts that its row lists hold what their initialisers lay (the card ties them to the program text). -/
import Derived.Test.YtaeedepojpablaaGreatDoorZqc1
import Derived.Test.YtaeedepojpablaaGreatDoorCards
import Derived.Test.YtaeedepojpablaaGreatDoorTie
import Derived.SevenTiedAt
namespace Go.Proofs.YtaeedepojpablaaGreatDoor
open Go.ChangeShapes Go.WideShapes Go.ChangeAt Go.RowKit
set_option linter.unusedVariables false

theorem over : Rows.typesChecksRow.holds Tryz.pinned (OpenSpec.ofChange Rows.typesChecksSpec) :=
 OpenClaim.holds_of_wide 4 Tryz.f4 rfl rfl rfl rfl rfl rfl rfl ⟨rfl, rfl, rfl, rfl, rfl⟩ rfl rfl rfl rfl rfl (by kernel_rfl) Tryz.func4 closedF
  (of_decide_eq_true (by kernel_rfl)) (by unfold Func.isWrapper; first | (rw [if_pos (by decide +kernel)]; kernel_rfl) | (rw [if_neg (by decide +kernel)]; exact ⟨rfl, rfl⟩))
  (fun os started H enc _ => lifted os started H enc)

/-- the card -/
theorem proved : Rows.TypesChecksCardSaid :=
 Claim7.holds_tied_plain_at .later [] [.data, .data, .data, .sentinel, .sentinel, .widerDeep, .data, .widerDeep, .widerDeep] true (true, "d1b58e48967d0d2bc84c66f206d1621701a03b98fe8b11400bf93b54d11f6264") true
  over (fun _ h => by cases h) (by kernel_rfl) (fun _ h => by cases h) typesChecks_row_tie rfl ⟨rfl, rfl⟩ (by kernel_rfl) rfl
  (fun f fn hf hfn => by
   obtain rfl : f = 4 := Option.some.inj ((show Tryz.prog.funcNamed "corollary/corollarylaw08.TypesChecks" = some 4 by kernel_rfl).symm.trans hf) |>.symm
   obtain rfl : fn = Tryz.f4 := (Option.some.inj (Tryz.func4.symm.trans hfn)).symm; refine ⟨by kernel_rfl, fun j t ht => ?_⟩
   have hm : t ∈ Tryz.f4.params.toList := by
    obtain ⟨hlt, rfl⟩ := Array.getElem?_eq_some_iff.1 ht; simp
   have hall : (Tryz.f4.params.toList.all fun t => Tryz.prog.wantsStandIn t == false) = true := by kernel_rfl
   have hb := List.all_eq_true.1 hall t hm; show Tryz.prog.wantsStandIn t = false
   simpa using hb)
  (by kernel_rfl)
#print axioms proved
end Go.Proofs.YtaeedepojpablaaGreatDoor
