/- ArithWhole: what both walks want. Printed by wip/tools/gen_arwh.py. -/
import Derived.Test.YtplekbpmfaghbaaGreatDoorMw1
import Derived.Test.YtplekbpmfaghbaaGreatDoorMo9
import Derived.Deep.RegionHeld3
namespace Go.Proofs.YtplekbpmfaghbaaGreatDoor
open Go.RowKit

theorem take_all {p : GV → Bool} {l : List GTold} {k : Nat} {t : GTold} (h : ∀ u ∈ l.take k, p u.v = true) (ht : l[k]? = some t) (hp : p t.v = true) : ∀ u ∈ l.take (k + 1), p u.v = true := by
  intro u hu
  rw [List.take_add_one, ht] at hu
  simp only [Option.toList_some, List.mem_append, List.mem_singleton] at hu
  rcases hu with hu | rfl
  · exact h u hu
  · exact hp

abbrev litV (x : GLit) (A : Option Addr) (n c : Nat) (P : Option Addr) (pn pc : Nat) (Q : Option Addr) (qn qc : Nat) : Value := .agg #[.int .i64 x.k, .string x.atom.rel, .slice A n c, .int .i64 x.op, .int .i64 x.l.op, .string x.l.t.x, .int .i64 x.l.t.v.k, .int .i64 x.l.t.v.n, .string x.l.t.v.s, .slice P pn pc, .int .i64 x.r.op, .string x.r.t.x, .int .i64 x.r.t.v.k, .int .i64 x.r.t.v.n, .string x.r.t.v.s, .slice Q qn qc, .int .i64 x.pos]
def LitRow (W : World) (b : Nat) (x : GLit) (A : Option Addr) (n c : Nat) (P : Option Addr) (pn pc : Nat) (Q : Option Addr) (qn qc : Nat) : Prop := W.heap[b]? = some (.cells #[.int .i64 x.k, .string x.atom.rel, .slice A n c, .int .i64 x.op, .int .i64 x.l.op, .string x.l.t.x, .int .i64 x.l.t.v.k, .int .i64 x.l.t.v.n, .string x.l.t.v.s, .slice P pn pc, .int .i64 x.r.op, .string x.r.t.x, .int .i64 x.r.t.v.k, .int .i64 x.r.t.v.n, .string x.r.t.v.s, .slice Q qn qc, .int .i64 x.pos] 38 (0, 0))
theorem LitRow.facts {W : World} {g : Nat} {x : GLit} {A : Option Addr} {n c : Nat} {P : Option Addr} {pn pc : Nat} {Q : Option Addr} {qn qc : Nat} (h : LitRow W g x A n c P pn pc Q qn qc) : W.cell? ⟨g, 0, none⟩ = some (.int .i64 x.k) ∧ W.cell? ⟨g, 1, none⟩ = some (.string x.atom.rel) ∧ W.cell? ⟨g, 2, none⟩ = some (.slice A n c) ∧ W.cell? ⟨g, 3, none⟩ = some (.int .i64 x.op) ∧ W.cell? ⟨g, 4, none⟩ = some (.int .i64 x.l.op) ∧ W.cell? ⟨g, 5, none⟩ = some (.string x.l.t.x) ∧ W.cell? ⟨g, 6, none⟩ = some (.int .i64 x.l.t.v.k) ∧ W.cell? ⟨g, 7, none⟩ = some (.int .i64 x.l.t.v.n) ∧ W.cell? ⟨g, 8, none⟩ = some (.string x.l.t.v.s) ∧ W.cell? ⟨g, 9, none⟩ = some (.slice P pn pc) ∧ W.cell? ⟨g, 10, none⟩ = some (.int .i64 x.r.op) ∧ W.cell? ⟨g, 11, none⟩ = some (.string x.r.t.x) ∧ W.cell? ⟨g, 12, none⟩ = some (.int .i64 x.r.t.v.k) ∧ W.cell? ⟨g, 13, none⟩ = some (.int .i64 x.r.t.v.n) ∧ W.cell? ⟨g, 14, none⟩ = some (.string x.r.t.v.s) ∧ W.cell? ⟨g, 15, none⟩ = some (.slice Q qn qc) ∧ W.cell? ⟨g, 16, none⟩ = some (.int .i64 x.pos) := facts17 h

theorem getT_right {l : List GTold} (h : ∀ t ∈ l, rightB t.v = true) : ∀ s v, getT l s = some v → rightB v = true := by
  intro s v hv
  simp only [getT, Option.map_eq_some_iff] at hv
  obtain ⟨t, ht, rfl⟩ := hv
  exact h t (List.mem_of_find?_eq_some ht)

end Go.Proofs.YtplekbpmfaghbaaGreatDoor
