/- The frame of the rows on expressions and programs: how such arguments are read. -/
import Derived.Test.YtplekbpmfaghbaaGreatDoorLFrame
import Derived.Test.YtplekbpmfaghbaaGreatDoorPgm
namespace Go.Proofs.YtplekbpmfaghbaaGreatDoor
open Go.RowKit Go.WideShapes

theorem open_encB {α : Type} {E : Nat → Enc α} {H : Type} {enc : TypeId × Value → H} {P : Program} {w : World} {t : TypeId} {v : Value} {d : DataW H} {p : List MemPlace} {r : Reach} {b0 : Nat} (hs : ∃ fs, P.underlying t = some (.struct fs)) (ho : ∀ N, OpensB N P t (E N))
    (hval : Value.okWide P w r b0 t v) (h : DataW.Trod enc P w 0 (fun _ => true) true t v d p) (hwt : ∀ n ∈ d.weights P t, n ≤ reachBytes) : ∃ (N : Nat) (x : α) (cs : List Value), v = .agg cs.toArray ∧ (E N).ok w w.heap.size cs x := by
  obtain ⟨fs, hs⟩ := hs
  obtain ⟨cs, rfl, hsz⟩ := okWide_struct hs hval
  obtain ⟨fuel, hx⟩ := h
  obtain ⟨y, hy⟩ := ho fuel _ _ _ fuel _ _ (Nat.le_refl _) hx hwt
  obtain ⟨cs⟩ := cs
  exact ⟨fuel, y, cs, rfl, by simpa [Value.cells] using hy⟩
theorem o_val2 : Opens Tryz.prog 31 Enc.val := opens_val (a := 29) (b := 3) (c := 9) (by kernel_rfl) (by kernel_rfl) Tryz.underlying29 Tryz.underlying3 Tryz.underlying9
theorem o_term : Opens Tryz.prog 33 Enc.told := opens_told (a := 9) (b := 31) (by kernel_rfl) (by kernel_rfl) Tryz.underlying9 o_val2
theorem o_exp (N : Nat) : OpensB N Tryz.prog 36 (Enc.exp (N + 1)) := opens_exp (a := 3) (b := 33) (c := 34) (by kernel_rfl) (by kernel_rfl) (of_decide_eq_true (by kernel_rfl)) Tryz.underlying3 o_term Tryz.underlying34 N
theorem u_exp : ∃ fs, Tryz.prog.underlying 36 = some (.struct fs) := ⟨_, Tryz.underlying36⟩
theorem o_terms : Opens Tryz.prog 22 (Enc.slice Enc.told) := opens_slice Tryz.underlying22 o_term (by kernel_rfl) (by show 0 < _; decide) (of_decide_eq_true (by kernel_rfl))
theorem o_lit (N : Nat) : OpensB N Tryz.prog 38 (Enc.lit N) := opens_lit (k := 28) (at_ := 24) (o := 3) (e := 36) (s := 9) (al := 22) (by kernel_rfl) (by kernel_rfl) Tryz.underlying28 Tryz.underlying3 (by kernel_rfl) (by kernel_rfl) Tryz.underlying9 o_terms (o_exp N)
theorem o_lits (N : Nat) : OpensB N Tryz.prog 25 (Enc.slice (Enc.lit N)) := opensB_slice' Tryz.underlying25 (o_lit N) (by show _ = 17; kernel_rfl) (show 0 < 17 by decide) (of_decide_eq_true (by kernel_rfl))
theorem o_rule (N : Nat) : OpensB N Tryz.prog 27 (Enc.rule N) := opens_rule (at_ := 24) (o := 3) (lt := 25) (s := 9) (al := 22) (by kernel_rfl) (by kernel_rfl) Tryz.underlying3 (by kernel_rfl) (by kernel_rfl) Tryz.underlying9 o_terms (o_lits N)
theorem o_rules (N : Nat) : OpensB N Tryz.prog 72 (Enc.slice (Enc.rule N)) := opensB_slice' Tryz.underlying72 (o_rule N) (by show _ = 6; kernel_rfl) (show 0 < 6 by decide) (of_decide_eq_true (by kernel_rfl))
theorem o_kind : Opens Tryz.prog 29 Enc.int := opens_int Tryz.underlying29
theorem o_kinds : Opens Tryz.prog 153 (Enc.slice Enc.int) := opens_slice Tryz.underlying153 o_kind (by kernel_rfl) (by show 0 < _; decide) (of_decide_eq_true (by kernel_rfl))
theorem o_decl : Opens Tryz.prog 155 Enc.decl := opens_decl (s := 9) (k := 153) (o := 3) (by kernel_rfl) (by kernel_rfl) Tryz.underlying9 o_kinds Tryz.underlying3
theorem o_decls : Opens Tryz.prog 71 (Enc.slice Enc.decl) := opens_slice Tryz.underlying71 o_decl (by kernel_rfl) (by show 0 < _; decide) (of_decide_eq_true (by kernel_rfl))
theorem o_prog (N : Nat) : OpensB N Tryz.prog 74 (Enc.prog N) := opens_prog (a := 71) (b := 72) (by kernel_rfl) (by kernel_rfl) o_decls (o_rules N)
theorem u_prog : ∃ fs, Tryz.prog.underlying 74 = some (.struct fs) := ⟨_, Tryz.underlying74⟩
end Go.Proofs.YtplekbpmfaghbaaGreatDoor
