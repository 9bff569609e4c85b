/- A path as an argument. -/
import Derived.Test.YtmaahfcniedfhaaDoorStFrame
import Derived.Test.YtmaahfcniedfhaaDoorStPath
namespace Go.Proofs.YtmaahfcniedfhaaDoor
open Go.ChangeShapes Go.WideShapes Go.ChangeAt Go.RowKit
set_option linter.unusedVariables false

theorem opens_bool {P : Program} {t : TypeId} (h : P.underlying t = some .bool) {H : Type} {enc : TypeId × Value → H} {w : World} {fuel : Nat} {cs : List Value} {x : DataW H × List MemPlace}
    (hx : DataW.trod enc P w 0 (fun _ => true) true fuel t cs = some x) : ∃ b, cs = [.bool b] := by
  obtain ⟨b, rfl, _⟩ := DataW.trod_bool h hx
  exact ⟨b, rfl⟩
/-- a path as an argument -/
theorem open_path {H : Type} {enc : TypeId × Value → H} {P : Program} {w : World} {t a b : TypeId} {v : Value} {d : DataW H} {p : List MemPlace} {r : Reach} {b0 : Nat} (hf : fieldsOf P t = [(a, 0, 1), (b, 1, 1)]) (hz : P.cellsOf t = 2) (ha : P.underlying a = some .bool) (hb : P.underlying b = some (.int .i64))
    (hval : Value.okWide P w r b0 t v) (h : DataW.Trod enc P w 0 (fun _ => true) true t v d p) (hwt : ∀ n ∈ d.weights P t, n ≤ reachBytes) :
    ∃ x y, v = pv x y ∧ fits y := by
  obtain ⟨fs, hs⟩ : ∃ fs, P.underlying t = some (.struct fs) := by
    unfold fieldsOf at hf
    split at hf
    · exact ⟨_, by assumption⟩
    · cases hf
  obtain ⟨cs, rfl, hsz⟩ := okWide_struct hs hval
  obtain ⟨fuel, hx⟩ := h
  obtain ⟨hl, hat⟩ := open_fields hf (by simp) hx hwt
  obtain ⟨cs⟩ := cs
  rw [hz] at hsz
  match cs, hsz with
  | [u0, u1], _ =>
    obtain ⟨y, n, h, hw⟩ := hat 0 _ rfl
    obtain ⟨s, e0⟩ := opens_bool ha h
    obtain ⟨y, n, h, hw⟩ := hat 1 _ rfl
    obtain ⟨s2, e1, f1⟩ := opens_int hb _ _ _ _ _ _ h hw
    simp [Value.cells] at e0 e1
    subst e0 e1
    exact ⟨s, s2, rfl, f1⟩
theorem f_path : fieldsOf Tryd.prog 29 = [(4, 0, 1), (3, 1, 1)] := by kernel_rfl
theorem z_path : Tryd.prog.cellsOf 29 = 2 := by kernel_rfl

end Go.Proofs.YtmaahfcniedfhaaDoor
