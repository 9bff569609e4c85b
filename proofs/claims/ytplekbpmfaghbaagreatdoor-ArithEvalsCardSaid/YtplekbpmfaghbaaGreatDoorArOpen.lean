/- How two values, a term, an expression, a literal, a list of what is told, as arguments, are read. -/
import Derived.Test.YtplekbpmfaghbaaGreatDoorMa5
namespace Go.Proofs.YtplekbpmfaghbaaGreatDoor
open Go.ChangeShapes Go.WideShapes Go.ChangeAt Go.RowKit

theorem u_twoV : Tryz.prog.underlying 113 = some (.array 2 31) := by kernel_rfl
theorem u_termT : ∃ fs, Tryz.prog.underlying 33 = some (.struct fs) := ⟨_, Tryz.underlying33⟩
theorem u_litL : ∃ fs, Tryz.prog.underlying 38 = some (.struct fs) := ⟨_, Tryz.underlying38⟩
theorem o_told : Opens Tryz.prog 119 Enc.told := opens_told (a := 9) (b := 31) (by kernel_rfl) (by kernel_rfl) Tryz.underlying9 o_val2
theorem o_tolds : Opens Tryz.prog 92 (Enc.slice Enc.told) := opens_slice Tryz.underlying92 o_told (by kernel_rfl) (by show 0 < _; decide) (of_decide_eq_true (by kernel_rfl))
theorem o_int13 : Opens Tryz.prog 3 Enc.int := opens_int Tryz.underlying3
theorem o_ints : Opens Tryz.prog 103 (Enc.slice Enc.int) := opens_slice Tryz.underlying103 o_int13 (by kernel_rfl) (by show 0 < _; decide) (of_decide_eq_true (by kernel_rfl))
/-- two values as an argument -/
theorem open_twoV {H : Type} {enc : TypeId × Value → H} {P : Program} {w : World} {t e : TypeId} {v : Value} {d : DataW H} {p : List MemPlace} {r : Reach} {b0 : Nat} (ht : P.underlying t = some (.array 2 e)) (hz : P.cellsOf t = 6) (hze : P.cellsOf e = 3) (ho : Opens P e Enc.val)
    (hval : Value.okWide P w r b0 t v) (h : DataW.Trod enc P w 0 (fun _ => true) true t v d p) (hwt : ∀ n ∈ d.weights P t, n ≤ reachBytes) :
    ∃ x y : GV, v = .agg #[.int .i64 x.k, .int .i64 x.n, .string x.s, .int .i64 y.k, .int .i64 y.n, .string y.s] ∧ x.ok ∧ y.ok := by
  obtain ⟨cs, rfl, hsz, _⟩ : ∃ cs, v = .agg cs ∧ cs.size = P.cellsOf t ∧ Row.okWide P w r b0 t cs := by
    simpa [Value.okWide, ht] using hval
  obtain ⟨fuel, hx⟩ := h
  obtain ⟨xs, m, hfu, hd, hl, hxl, hel⟩ := DataW.trod_array ht hx
  injection hd with hd _
  have h0 := hel 0 (by omega)
  have h1 := hel 1 (by omega)
  rw [hze, List.getElem?_eq_getElem (by omega)] at h0
  rw [hze, List.getElem?_eq_getElem (by omega)] at h1
  have hw : ∀ i (hi : i < xs.length), ∀ n ∈ (xs[i]).1.weights P e, n ≤ reachBytes := fun i hi n hn => hwt n (by
    rw [hd]
    simp only [DataW.weights, ht]
    exact weights_all (List.mem_map.2 ⟨xs[i], List.getElem_mem _, rfl⟩) n hn)
  obtain ⟨a, ha1, ha2⟩ := ho H enc w m _ _ h0 (hw 0 (by omega))
  obtain ⟨b, hb1, hb2⟩ := ho H enc w m _ _ h1 (hw 1 (by omega))
  obtain ⟨cs⟩ := cs
  rw [hz] at hsz
  match cs, hsz with
  | [u0, u1, u2, u3, u4, u5], _ =>
    simp [Value.cells] at ha1 hb1
    obtain ⟨rfl, rfl, rfl⟩ := ha1
    obtain ⟨rfl, rfl, rfl⟩ := hb1
    exact ⟨a, b, rfl, ha2, hb2⟩
end Go.Proofs.YtplekbpmfaghbaaGreatDoor
