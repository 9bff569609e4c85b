/- The frame of the rows on values: opening the arguments, the tables, a start that fits. -/
import Derived.Test.YtplekbpmfaghbaaGreatDoorOpen
import Derived.Test.YtplekbpmfaghbaaGreatDoorTab
import Derived.Test.YtplekbpmfaghbaaGreatDoorRows
import Derived.OpenShut
import Derived.ChangeOld
import Derived.ChangeSame
import Derived.ChangeVars
import Derived.JoinedOf
import Derived.LaidLaws
import Derived.LaidHandle
import Derived.Stop.LaidErr
import Derived.Lib.LaidTab
import Derived.Below
namespace Go.Proofs.YtplekbpmfaghbaaGreatDoor
open Go.ChangeShapes Go.WideShapes Go.ChangeAt Go.RowKit
set_option linter.unusedVariables false

theorem own : ownKnob Tryz.prog.godebug = none := by kernel_rfl
theorem laidOut : laidOutB Tryz.prog = true := by kernel_rfl
theorem u_bool : Tryz.prog.underlying 4 = some .bool := by kernel_rfl

def laid {H : Type} : List (String × DataW H) := [("math/bits.deBruijn32tab", Rows.laid_math_bits_deBruijn32tab), ("math/bits.deBruijn64tab", Rows.laid_math_bits_deBruijn64tab), ("internal/strconv.uint64pow10", Rows.laid_internal_strconv_uint64pow10)]

theorem gP : Tryz.prog.globalNamed "internal/strconv.uint64pow10" = some 8 := by kernel_rfl
theorem gPT : (Tryz.prog.globals[8]?).map (·.type) = some 291 := by kernel_rfl
theorem pow_eq : (Rows.laid_internal_strconv_uint64pow10 : DataW Unit) = Lib.tabData .u64 Lib.pow10Tab := by kernel_rfl
theorem tab_of_laid {W : World} (h : laidMet Tryz.prog laid W) : TabW W :=
  TabW.of (Lib.tabIs_of_head gP gPT Tryz.underlying291 Tryz.underlying277 (by kernel_rfl) (by kernel_rfl) (rest := []) (by rw [← pow_eq]; exact laidMet.tail (laidMet.tail h)))

/-- a value as an argument -/
theorem open_value {H : Type} {enc : TypeId × Value → H} {P : Program} {w : World} {t : TypeId} {v : Value} {d : DataW H} {p : List MemPlace} {r : Reach} {b0 : Nat} {fs : Array Field} (hs : P.underlying t = some (.struct fs)) (hz : P.cellsOf t = 3) (ho : Opens P t Enc.val)
    (hval : Value.okWide P w r b0 t v) (h : DataW.Trod enc P w 0 (fun _ => true) true t v d p) (hwt : ∀ n ∈ d.weights P t, n ≤ reachBytes) :
    ∃ x : GV, v = x.v := by
  obtain ⟨cs, rfl, hsz⟩ := okWide_struct hs hval
  obtain ⟨fuel, hx⟩ := h
  obtain ⟨x, hx, -⟩ := ho H enc w fuel _ _ hx hwt
  refine ⟨x, ?_⟩
  have : cs = #[.int .i64 x.k, .int .i64 x.n, .string x.s] := by
    cases cs; simpa [Value.cells] using hx
  rw [this]
theorem open_value' {H : Type} {enc : TypeId × Value → H} {P : Program} {w : World} {t : TypeId} {v : Value} {d : DataW H} {p : List MemPlace} {r : Reach} {b0 : Nat} {fs : Array Field} (hs : P.underlying t = some (.struct fs)) (hz : P.cellsOf t = 3) (ho : Opens P t Enc.val)
    (hval : Value.okWide P w r b0 t v) (h : DataW.Trod enc P w 0 (fun _ => true) true t v d p) (hwt : ∀ n ∈ d.weights P t, n ≤ reachBytes) :
    ∃ x : GV, v = x.v ∧ x.ok := by
  obtain ⟨cs, rfl, hsz⟩ := okWide_struct hs hval
  obtain ⟨fuel, hx⟩ := h
  obtain ⟨x, hx, hok⟩ := ho H enc w fuel _ _ hx hwt
  refine ⟨x, ?_, hok⟩
  have : cs = #[.int .i64 x.k, .int .i64 x.n, .string x.s] := by
    cases cs; simpa [Value.cells] using hx
  rw [this]
theorem open_str' {H : Type} {enc : TypeId × Value → H} {P : Program} {w : World} {t : TypeId} {v : Value} {d : DataW H} {p : List MemPlace} {r : Reach} {b0 : Nat} (hs : P.underlying t = some .string) (hval : Value.okWide P w r b0 t v)
    (h : DataW.Trod enc P w 0 (fun _ => true) true t v d p) (hwt : ∀ n ∈ d.weights P t, n ≤ reachBytes) : ∃ s : ByteArray, v = .string s ∧ s.size ≤ reachN := by
  obtain ⟨fuel, hx⟩ := h
  obtain ⟨s0, rfl⟩ := okWide_string hs hval
  obtain ⟨s, e, hok⟩ := opens_str hs H enc w fuel _ _ hx hwt
  simp [Value.cells] at e
  subst e
  exact ⟨_, rfl, hok⟩
theorem open_int' {H : Type} {enc : TypeId × Value → H} {P : Program} {w : World} {t : TypeId} {v : Value} {d : DataW H} {p : List MemPlace} {r : Reach} {b0 : Nat} {k : IntKind} (hs : P.underlying t = some (.int k)) (hval : Value.okWide P w r b0 t v)
    (h : DataW.Trod enc P w 0 (fun _ => true) true t v d p) : ∃ n : Int, v = .int k n ∧ (Lit.int k n).wf = true := by
  obtain ⟨n, rfl, -, -, hw⟩ := open_int hs hval h
  exact ⟨n, rfl, hw⟩
theorem o_val : Opens Tryz.prog 31 Enc.val := opens_val (a := 29) (b := 3) (c := 9) (by kernel_rfl) (by kernel_rfl) (by kernel_rfl) (by kernel_rfl) (by kernel_rfl)
theorem z_val : Tryz.prog.cellsOf 31 = 3 := by kernel_rfl
theorem u_val : ∃ fs, Tryz.prog.underlying 31 = some (.struct fs) := ⟨_, Tryz.underlying31⟩


/-- a start that fits: the settled world, the three tables laid -/
noncomputable def laidWorld (os : Os) : World :=
  let w0 := World.holding Tryz.prog os ⟨#[], #[], []⟩
  let put (h : Array Obj) (g : Nat) (cs : Array Value) : Array Obj := h.modify g fun
    | .cells _ t frozen => .cells cs t frozen
    | o => o
  let tab (d : DataW Unit) : Array Value := match d with
    | .agg l => (l.map fun | .lit (.int k n) => Value.int k n | _ => undef).toArray
    | _ => #[]
  let h1 := put w0.heap 11 (tab Rows.laid_math_bits_deBruijn32tab)
  let h2 := put h1 12 (tab Rows.laid_math_bits_deBruijn64tab)
  let h3 := put h2 8 (tab Rows.laid_internal_strconv_uint64pow10)
  { w0 with heap := h3 }
set_option maxRecDepth 100000 in
theorem laidWorld_met (os : Os) (args : Array Value) : laidMet Tryz.prog laid ((laidWorld os).forCall (fun _ _ => 0) ⟨#[], args, []⟩).memory :=
  laidMet_of_run' 8 (by kernel_rfl) (by kernel_rfl)
end Go.Proofs.YtplekbpmfaghbaaGreatDoor
