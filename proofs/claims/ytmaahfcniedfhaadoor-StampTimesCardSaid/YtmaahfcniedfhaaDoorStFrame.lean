/- The frame of the rows on times: opening the arguments, the table, a start that fits. -/
import Derived.Test.YtmaahfcniedfhaaDoorOpen
import Derived.Test.YtmaahfcniedfhaaDoorStTime
import Derived.Test.YtmaahfcniedfhaaDoorRows
import Derived.OpenShut
import Derived.ChangeOld
import Derived.ChangeSame
import Derived.ChangeVars
import Derived.JoinedOf
import Derived.LaidLaws
import Derived.LaidHandle
import Derived.Stop.LaidErr
import Derived.Lib.LaidTab
import Derived.Below
namespace Go.Proofs.YtmaahfcniedfhaaDoor
open Go.ChangeShapes Go.WideShapes Go.ChangeAt Go.RowKit
set_option linter.unusedVariables false

theorem own : ownKnob Tryd.prog.godebug = none := by kernel_rfl
theorem laidOut : laidOutB Tryd.prog = true := by kernel_rfl
theorem u_bool : Tryd.prog.underlying 4 = some .bool := by kernel_rfl

def laid {H : Type} : List (String × DataW H) := [("math/bits.deBruijn32tab", Rows.laid_math_bits_deBruijn32tab), ("math/bits.deBruijn64tab", Rows.laid_math_bits_deBruijn64tab), ("internal/strconv.uint64pow10", Rows.laid_internal_strconv_uint64pow10)]

theorem gP : Tryd.prog.globalNamed "internal/strconv.uint64pow10" = some 0 := by kernel_rfl
theorem gPT : (Tryd.prog.globals[0]?).map (·.type) = some 76 := by kernel_rfl
theorem pow_eq : (Rows.laid_internal_strconv_uint64pow10 : DataW Unit) = Lib.tabData .u64 Lib.pow10Tab := by kernel_rfl
theorem tab_of_laid {W : World} (h : laidMet Tryd.prog laid W) : TabW W :=
  TabW.of (Lib.tabIs_of_head gP gPT Tryd.underlying76 Tryd.underlying68 (by kernel_rfl) (by kernel_rfl) (rest := []) (by rw [← pow_eq]; exact laidMet.tail (laidMet.tail h)))

/-- a time as an argument -/
theorem open_time {H : Type} {enc : TypeId × Value → H} {P : Program} {w : World} {t a b : TypeId} {v : Value} {d : DataW H} {p : List MemPlace} {r : Reach} {b0 : Nat} (hf : fieldsOf P t = [(a, 0, 1), (b, 1, 1)]) (hz : P.cellsOf t = 2) (ha : P.underlying a = some (.int .i64)) (hb : P.underlying b = some (.int .i64))
    (hval : Value.okWide P w r b0 t v) (h : DataW.Trod enc P w 0 (fun _ => true) true t v d p) (hwt : ∀ n ∈ d.weights P t, n ≤ reachBytes) :
    ∃ x y, v = tm x y ∧ fits x ∧ fits y := by
  obtain ⟨fs, hs⟩ : ∃ fs, P.underlying t = some (.struct fs) := by
    unfold fieldsOf at hf
    split at hf
    · exact ⟨_, by assumption⟩
    · cases hf
  obtain ⟨cs, rfl, hsz⟩ := okWide_struct hs hval
  obtain ⟨fuel, hx⟩ := h
  obtain ⟨hl, hat⟩ := open_fields hf (by simp) hx hwt
  obtain ⟨cs⟩ := cs
  rw [hz] at hsz
  match cs, hsz with
  | [u0, u1], _ =>
    obtain ⟨y, n, h, hw⟩ := hat 0 _ rfl
    obtain ⟨s, e0, f0⟩ := opens_int ha _ _ _ _ _ _ h hw
    obtain ⟨y, n, h, hw⟩ := hat 1 _ rfl
    obtain ⟨s2, e1, f1⟩ := opens_int hb _ _ _ _ _ _ h hw
    simp [Value.cells] at e0 e1
    subst e0 e1
    exact ⟨s, s2, rfl, f0, f1⟩
theorem f_time : fieldsOf Tryd.prog 23 = [(3, 0, 1), (3, 1, 1)] := by kernel_rfl
theorem z_time : Tryd.prog.cellsOf 23 = 2 := by kernel_rfl
theorem u_int : Tryd.prog.underlying 3 = some (.int .i64) := by kernel_rfl

/-- a start that fits: the settled world, the three tables laid -/
noncomputable def laidWorld (os : Os) : World :=
  let w0 := World.holding Tryd.prog os ⟨#[], #[], []⟩
  let put (h : Array Obj) (g : Nat) (cs : Array Value) : Array Obj := h.modify g fun
    | .cells _ t frozen => .cells cs t frozen
    | o => o
  let tab (d : DataW Unit) : Array Value := match d with
    | .agg l => (l.map fun | .lit (.int k n) => Value.int k n | _ => undef).toArray
    | _ => #[]
  let h1 := put w0.heap 1 (tab Rows.laid_math_bits_deBruijn32tab)
  let h2 := put h1 2 (tab Rows.laid_math_bits_deBruijn64tab)
  let h3 := put h2 0 (tab Rows.laid_internal_strconv_uint64pow10)
  { w0 with heap := h3 }
set_option maxRecDepth 100000 in
theorem laidWorld_met (os : Os) (args : Array Value) : laidMet Tryd.prog laid ((laidWorld os).forCall (fun _ _ => 0) ⟨#[], args, []⟩).memory :=
  laidMet_of_run' 8 (by kernel_rfl) (by kernel_rfl)
end Go.Proofs.YtmaahfcniedfhaaDoor
