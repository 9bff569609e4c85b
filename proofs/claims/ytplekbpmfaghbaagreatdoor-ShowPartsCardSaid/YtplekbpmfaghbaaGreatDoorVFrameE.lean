/- The frame of the rows that list the two errors of strconv besides the three tables. -/
import Derived.Test.YtplekbpmfaghbaaGreatDoorVFrame
import Derived.Test.YtplekbpmfaghbaaGreatDoorVParse
import Derived.Stop.LaidErr
namespace Go.Proofs.YtplekbpmfaghbaaGreatDoor
open Go.ChangeShapes Go.WideShapes Go.ChangeAt Go.RowKit
set_option linter.unusedVariables false

theorem open_u32' {H : Type} {enc : TypeId × Value → H} {P : Program} {w : World} {t : TypeId} {v : Value} {d : DataW H} {p : List MemPlace} {r : Reach} {b0 : Nat} (hs : P.underlying t = some (.int .u32)) (hval : Value.okWide P w r b0 t v)
    (h : DataW.Trod enc P w 0 (fun _ => true) true t v d p) : ∃ n : Nat, v = .int .u32 n ∧ n < 4294967296 := by
  obtain ⟨n, rfl, hw⟩ := open_int' hs hval h
  have hw' : 0 ≤ n ∧ n < 4294967296 := by
    simp [Lit.wf, IntKind.min, IntKind.max, IntKind.signed, IntKind.bits] at hw; omega
  exact ⟨n.toNat, by congr 1; omega, by omega⟩
def laidE {H : Type} : List (String × DataW H) := [("math/bits.deBruijn32tab", Rows.laid_math_bits_deBruijn32tab), ("math/bits.deBruijn64tab", Rows.laid_math_bits_deBruijn64tab), ("internal/strconv.uint64pow10", Rows.laid_internal_strconv_uint64pow10), ("strconv.ErrRange", Rows.laid_strconv_ErrRange), ("strconv.ErrSyntax", Rows.laid_strconv_ErrSyntax)]

theorem tab_of_laidE {W : World} (h : laidMet Tryz.prog laidE W) : TabW W :=
  TabW.of (Lib.tabIs_of_head gP gPT Tryz.underlying291 Tryz.underlying277 (by kernel_rfl) (by kernel_rfl) (rest := [("strconv.ErrRange", Rows.laid_strconv_ErrRange), ("strconv.ErrSyntax", Rows.laid_strconv_ErrSyntax)]) (by rw [← pow_eq]; exact laidMet.tail (laidMet.tail h)))

theorem gER : Tryz.prog.globalNamed "strconv.ErrRange" = some 10 := by kernel_rfl
theorem gERT : (Tryz.prog.globals[10]?).map (·.type) = some 57 := by kernel_rfl
theorem gES : Tryz.prog.globalNamed "strconv.ErrSyntax" = some 9 := by kernel_rfl
theorem gEST : (Tryz.prog.globals[9]?).map (·.type) = some 57 := by kernel_rfl
theorem cellsES : Tryz.prog.cellsOf 305 = 1 := by kernel_rfl
theorem cellsStr : Tryz.prog.cellsOf 9 = 1 := by kernel_rfl
theorem starES : "*" ++ "errors.errorString" = "*errors.errorString" := by decide
theorem rowES (u : TypeId) (h : Tryz.prog.typeName? 3 u = some "*errors.errorString") : u = 303 :=
  typeName_ptr_named (nm := "errors.errorString") (by rw [starES]; kernel_rfl) (by kernel_rfl) (by decide) u (by rw [starES]; exact h)
theorem err_of_laidE {W : World} (h : laidMet Tryz.prog laidE W) : ErrW W := by
  have h3 := laidMet.tail (laidMet.tail (laidMet.tail h))
  obtain ⟨a0, s0, hv0, -, -, -⟩ := laid_sentinel h3 gER gERT Tryz.underlying57 rowES Tryz.underlying303 Tryz.underlying305 rfl rfl Tryz.underlying9 cellsES cellsStr
  obtain ⟨a1, s1, hv1, -, -, -⟩ := laid_sentinel (laidMet.tail h3) gES gEST Tryz.underlying57 rowES Tryz.underlying303 Tryz.underlying305 rfl rfl Tryz.underlying9 cellsES cellsStr
  exact ⟨⟨_, _, by have h0 := World.var?_cell gES hv1 0; simpa using h0⟩, ⟨_, _, by have h0 := World.var?_cell gER hv0 0; simpa using h0⟩⟩

abbrev synS : ByteArray := { data := #[105, 110, 118, 97, 108, 105, 100, 32, 115, 121, 110, 116, 97, 120] }
abbrev rngS : ByteArray := { data := #[118, 97, 108, 117, 101, 32, 111, 117, 116, 32, 111, 102, 32, 114, 97, 110, 103, 101] }
noncomputable def low : Nat := (World.holding Tryz.prog default ⟨#[], #[], []⟩).heap.size
noncomputable def laidWorldE (os : Os) : World :=
  let w0 := World.holding Tryz.prog os ⟨#[.cells #[.string synS] 305, .cells #[.string rngS] 305], #[], []⟩
  let put (h : Array Obj) (g : Nat) (cs : Array Value) : Array Obj := h.modify g fun
    | .cells _ t frozen => .cells cs t frozen
    | o => o
  let tab (d : DataW Unit) : Array Value := match d with
    | .agg l => (l.map fun | .lit (.int k n) => Value.int k n | _ => undef).toArray
    | _ => #[]
  let h1 := put w0.heap 11 (tab Rows.laid_math_bits_deBruijn32tab)
  let h2 := put h1 12 (tab Rows.laid_math_bits_deBruijn64tab)
  let h3 := put h2 8 (tab Rows.laid_internal_strconv_uint64pow10)
  let h4 := put h3 9 #[.iface 303 (.pointer (some ⟨low, 0, none⟩))]
  let h5 := put h4 10 #[.iface 303 (.pointer (some ⟨low + 1, 0, none⟩))]
  { w0 with heap := h5 }
set_option maxRecDepth 100000 in
theorem laidWorldE_met (os : Os) (args : Array Value) : laidMet Tryz.prog laidE ((laidWorldE os).forCall (fun _ _ => 0) ⟨#[], args, []⟩).memory :=
  laidMet_of_run' 8 (by kernel_rfl) (by kernel_rfl)
end Go.Proofs.YtplekbpmfaghbaaGreatDoor
