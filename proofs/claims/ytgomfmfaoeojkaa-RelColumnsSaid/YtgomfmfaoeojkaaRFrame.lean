/- The frame of the statements on relations: how their arguments are read. -/
import Derived.Test.YtgomfmfaoeojkaaOpen
import Derived.Test.YtgomfmfaoeojkaaProg
import Derived.Test.YtgomfmfaoeojkaaChecked
import Derived.OpenShut
import Derived.ChangeOld
import Derived.Below
namespace Go.Proofs.Ytgomfmfaoeojkaa
open Go.ChangeShapes Go.WideShapes Go.ChangeAt Go.RowKit
set_option linter.unusedVariables false

theorem own : ownKnob Try.prog.godebug = none := by kernel_rfl
theorem laidOut : laidOutB Try.prog = true := by kernel_rfl
theorem u_tup : Try.prog.underlying 24 = some (.slice 56) := by kernel_rfl
theorem u_tups : Try.prog.underlying 22 = some (.slice 24) := by kernel_rfl
theorem u_ints : Try.prog.underlying 60 = some (.slice 3) := by kernel_rfl
theorem u_bool : Try.prog.underlying 4 = some .bool := by kernel_rfl
theorem o_val : Opens Try.prog 56 Enc.val := opens_val (a := 54) (b := 3) (c := 9) (by kernel_rfl) (by kernel_rfl) (by kernel_rfl) (by kernel_rfl) (by kernel_rfl)
theorem o_tup : Opens Try.prog 24 (Enc.slice Enc.val) := opens_slice u_tup o_val (by kernel_rfl) (by decide) (of_decide_eq_true (by kernel_rfl))
theorem o_tups : Opens Try.prog 22 (Enc.slice (Enc.slice Enc.val)) := opens_slice u_tups o_tup (by kernel_rfl) (by decide) (of_decide_eq_true (by kernel_rfl))
theorem o_int : Opens Try.prog 3 Enc.int := opens_int (by kernel_rfl)
theorem o_ints : Opens Try.prog 60 (Enc.slice Enc.int) := opens_slice u_ints o_int (by kernel_rfl) (by decide) (of_decide_eq_true (by kernel_rfl))
end Go.Proofs.Ytgomfmfaoeojkaa
