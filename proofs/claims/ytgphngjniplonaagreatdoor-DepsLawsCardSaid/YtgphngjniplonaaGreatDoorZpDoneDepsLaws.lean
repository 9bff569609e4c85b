/- corollarylaw10.DepsLaws returns true at every graph and any two numbers. Conditions: the three tables and two errors of the library and the five lists of texts that its row lists hold what their initialisers lay (the card ties them to the program text). -/
import Derived.Test.YtgphngjniplonaaGreatDoorZpd9
import Derived.Test.YtgphngjniplonaaGreatDoorCards
import Derived.Test.YtgphngjniplonaaGreatDoorTie
import Derived.SevenTiedAt
namespace Go.Proofs.YtgphngjniplonaaGreatDoor
open Go.ChangeShapes Go.WideShapes Go.ChangeAt Go.RowKit
set_option linter.unusedVariables false

theorem over : Rows.depsLawsRow.holds Tryz.pinned (OpenSpec.ofChange Rows.depsLawsSpec) :=
  OpenClaim.holds_of_wide 6 Tryz.f6 rfl rfl rfl rfl rfl rfl rfl ⟨rfl, rfl, rfl, rfl, rfl⟩ rfl rfl rfl rfl rfl (by kernel_rfl) Tryz.func6 closedF
    (of_decide_eq_true (by kernel_rfl)) (by unfold Func.isWrapper; first | (rw [if_pos (by decide +kernel)]; kernel_rfl) | (rw [if_neg (by decide +kernel)]; exact ⟨rfl, rfl⟩))
    (fun os started H enc _ => lifted os started H enc)

/-- the card -/
theorem proved : Rows.DepsLawsCardSaid :=
  Claim7.holds_tied_plain_at .later [] [.data, .data, .data, .sentinel, .sentinel, .widerDeep, .data, .widerDeep, .widerDeep] true (true, "04a1f1c28c8fb6ca80f57b587a83756b3eebc50b34ce5b42e3e019e2a34f50d0") true
    over (fun _ h => by cases h) (by kernel_rfl) (fun _ h => by cases h) depsLaws_row_tie rfl ⟨rfl, rfl⟩ (by kernel_rfl) rfl
    (fun f fn hf hfn => by
      obtain rfl : f = 6 := Option.some.inj ((show Tryz.prog.funcNamed "corollary/corollarylaw10.DepsLaws" = some 6 by kernel_rfl).symm.trans hf) |>.symm
      obtain rfl : fn = Tryz.f6 := (Option.some.inj (Tryz.func6.symm.trans hfn)).symm
      refine ⟨by kernel_rfl, fun j t ht => ?_⟩
      have hm : t ∈ Tryz.f6.params.toList := by
        obtain ⟨hlt, rfl⟩ := Array.getElem?_eq_some_iff.1 ht
        simp
      have hall : (Tryz.f6.params.toList.all fun t => Tryz.prog.wantsStandIn t == false) = true := by kernel_rfl
      have hb := List.all_eq_true.1 hall t hm
      show Tryz.prog.wantsStandIn t = false
      simpa using hb)
    (by kernel_rfl)
#print axioms proved
end Go.Proofs.YtgphngjniplonaaGreatDoor
