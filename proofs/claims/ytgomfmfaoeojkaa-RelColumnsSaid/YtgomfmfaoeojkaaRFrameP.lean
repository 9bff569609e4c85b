/- The frame of RelPlays: how the acts are read. -/
import Derived.Test.YtgomfmfaoeojkaaRFrame
import Derived.Test.YtgomfmfaoeojkaaRelPInv
namespace Go.Proofs.Ytgomfmfaoeojkaa
open Go.ChangeShapes Go.WideShapes Go.ChangeAt Go.RowKit
set_option linter.unusedVariables false

theorem open_int' {H : Type} {enc : TypeId × Value → H} {P : Program} {w : World} {t : TypeId} {v : Value} {d : DataW H} {p : List MemPlace} {r : Reach} {b0 : Nat} {k : IntKind} (hs : P.underlying t = some (.int k)) (hval : Value.okWide P w r b0 t v)
    (h : DataW.Trod enc P w 0 (fun _ => true) true t v d p) : ∃ n : Int, v = .int k n ∧ (Lit.int k n).wf = true := by
  obtain ⟨n, rfl, -, -, hw⟩ := open_int hs hval h
  exact ⟨n, rfl, hw⟩
theorem opens_act {P : Program} {t a b : TypeId} (hf : fieldsOf P t = [(a, 0, 1), (b, 1, 1)]) (hz : P.cellsOf t = 2) (ha : Opens P a (Enc.slice Enc.val)) (hb : P.underlying b = some .bool) : Opens P t Enc.act := by
  intro H enc w fuel cs x hx hwt
  obtain ⟨hl, hat⟩ := open_fields hf (by simp) hx hwt
  rw [hz] at hl
  match cs, hl with
  | [u0, u1], _ =>
    obtain ⟨y, n, h, hw⟩ := hat 0 _ rfl
    obtain ⟨s, A, m, c, e0, f0⟩ := ha _ _ _ _ _ _ h hw
    obtain ⟨y, n, h, hw⟩ := hat 1 _ rfl
    obtain ⟨v, e1, -⟩ := DataW.trod_bool hb h
    simp at e0 e1
    subst e0 e1
    exact ⟨⟨s, v⟩, A, m, c, rfl, f0⟩
theorem u_acts : Try.prog.underlying 42 = some (.slice 49) := by kernel_rfl
theorem o_act : Opens Try.prog 49 Enc.act := opens_act (a := 24) (b := 4) (by kernel_rfl) (by kernel_rfl) o_tup u_bool
theorem o_acts : Opens Try.prog 42 (Enc.slice Enc.act) := opens_slice u_acts o_act (by kernel_rfl) (by decide) (of_decide_eq_true (by kernel_rfl))
end Go.Proofs.Ytgomfmfaoeojkaa
