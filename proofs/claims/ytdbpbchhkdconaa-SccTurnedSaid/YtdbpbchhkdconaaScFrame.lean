/- The frame of the statements on graphs: how their arguments are read. -/
import Derived.Test.YtdbpbchhkdconaaOpen
import Derived.Test.YtdbpbchhkdconaaScG
import Derived.Test.YtdbpbchhkdconaaProg
import Derived.Test.YtdbpbchhkdconaaChecked
import Derived.OpenShut
import Derived.ChangeOld
import Derived.Below
namespace Go.Proofs.Ytdbpbchhkdconaa
open Go.ChangeShapes Go.WideShapes Go.ChangeAt Go.RowKit
set_option linter.unusedVariables false

theorem own : ownKnob Try.prog.godebug = none := by kernel_rfl
theorem laidOut : laidOutB Try.prog = true := by kernel_rfl
theorem u_bool : Try.prog.underlying 4 = some .bool := by kernel_rfl
theorem opens_edge {P : Program} {t a b c : TypeId} (hf : fieldsOf P t = [(a, 0, 1), (b, 1, 1), (c, 2, 1)]) (hz : P.cellsOf t = 3) (ha : P.underlying a = some (.int .i64)) (hb : P.underlying b = some (.int .i64)) (hc : P.underlying c = some .bool) : Opens P t Enc.edge := by
  intro H enc w fuel cs x hx hwt
  obtain ⟨hl, hat⟩ := open_fields hf (by simp) hx hwt
  rw [hz] at hl
  match cs, hl with
  | [u0, u1, u2], _ =>
    obtain ⟨y, n, h, hw⟩ := hat 0 _ rfl
    obtain ⟨k, e0, f0⟩ := opens_int ha _ _ _ _ _ _ h hw
    obtain ⟨y, n, h, hw⟩ := hat 1 _ rfl
    obtain ⟨i, e1, f1⟩ := opens_int hb _ _ _ _ _ _ h hw
    obtain ⟨y, n, h, hw⟩ := hat 2 _ rfl
    obtain ⟨s, e2, _⟩ := DataW.trod_bool hc h
    simp at e0 e1 e2
    subst e0 e1 e2
    exact ⟨⟨k, i, s⟩, rfl, f0, f1⟩
set_option maxRecDepth 100000 in
theorem o_edge : Opens Try.prog 32 Enc.edge := opens_edge (a := 3) (b := 3) (c := 4) (by kernel_rfl) (by kernel_rfl) (by kernel_rfl) (by kernel_rfl) (by kernel_rfl)
theorem u_edges : Try.prog.underlying 22 = some (.slice 32) := by kernel_rfl
set_option maxRecDepth 100000 in
theorem o_edges : Opens Try.prog 22 (Enc.slice Enc.edge) := opens_slice u_edges o_edge (by kernel_rfl) (by decide) (of_decide_eq_true (by kernel_rfl))
theorem open_graphG {H : Type} {enc : TypeId × Value → H} {P : Program} {w : World} {t a b : TypeId} {v : Value} {d : DataW H} {p : List MemPlace} {r : Reach} {b0 : Nat} (hf : fieldsOf P t = [(a, 0, 1), (b, 1, 1)]) (hz : P.cellsOf t = 2) (ha : P.underlying a = some (.int .i64)) (hb : Opens P b (Enc.slice Enc.edge))
    (hval : Value.okWide P w r b0 t v) (h : DataW.Trod enc P w 0 (fun _ => true) true t v d p) (hwt : ∀ n ∈ d.weights P t, n ≤ reachBytes) :
    ∃ n A m c l, v = .agg #[.int .i64 n, .slice A m c] ∧ fits n ∧ SliceIs Enc.edge w w.heap.size A m c l := by
  obtain ⟨fs, hs⟩ : ∃ fs, P.underlying t = some (.struct fs) := by
    unfold fieldsOf at hf
    split at hf
    · exact ⟨_, by assumption⟩
    · cases hf
  obtain ⟨cs, rfl, hsz⟩ := okWide_struct hs hval
  obtain ⟨fuel, hx⟩ := h
  obtain ⟨hl, hat⟩ := open_fields hf (by simp) hx hwt
  obtain ⟨cs⟩ := cs
  rw [hz] at hsz
  match cs, hsz with
  | [u0, u1], _ =>
    obtain ⟨y, n, h, hw⟩ := hat 0 _ rfl
    obtain ⟨s, e0, f0⟩ := opens_int ha _ _ _ _ _ _ h hw
    obtain ⟨y, n, h, hw⟩ := hat 1 _ rfl
    obtain ⟨l, A, m, c, e1, f1⟩ := hb _ _ _ _ _ _ h hw
    simp [Value.cells] at e0 e1
    subst e0 e1
    exact ⟨s, A, m, c, l, rfl, f0, f1⟩
set_option maxRecDepth 100000 in
theorem open_graph {H : Type} {enc : TypeId × Value → H} {w : World} {v : Value} {d : DataW H} {p : List MemPlace} {r : Reach} {b0 : Nat} (hval : Value.okWide Try.prog w r b0 24 v) (h : DataW.Trod enc Try.prog w 0 (fun _ => true) true 24 v d p) (hwt : ∀ n ∈ d.weights Try.prog 24, n ≤ reachBytes) :
    ∃ n A m c l, v = .agg #[.int .i64 n, .slice A m c] ∧ fits n ∧ SliceIs Enc.edge w w.heap.size A m c l :=
  open_graphG (a := 3) (b := 22) (by kernel_rfl) (by kernel_rfl) (by kernel_rfl) o_edges hval h hwt
theorem open_int' {H : Type} {enc : TypeId × Value → H} {P : Program} {w : World} {t : TypeId} {v : Value} {d : DataW H} {p : List MemPlace} {r : Reach} {b0 : Nat} {k : IntKind} (hs : P.underlying t = some (.int k)) (hval : Value.okWide P w r b0 t v)
    (h : DataW.Trod enc P w 0 (fun _ => true) true t v d p) : ∃ n : Int, v = .int k n ∧ (Lit.int k n).wf = true := by
  obtain ⟨n, rfl, -, -, hw⟩ := open_int hs hval h
  exact ⟨n, rfl, hw⟩
end Go.Proofs.Ytdbpbchhkdconaa
