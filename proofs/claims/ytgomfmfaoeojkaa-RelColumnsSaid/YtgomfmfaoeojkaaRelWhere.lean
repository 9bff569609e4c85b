/- Where: the closure that goes through the rows that match. -/
import Derived.Test.YtgomfmfaoeojkaaRelProj
import Derived.Test.YtgomfmfaoeojkaaRelIs
namespace Go.Proofs.Ytgomfmfaoeojkaa
open Go.RowKit

def whereB (col : Int) (v : GV) (t : List GV) : Bool := decide (0 ≤ col) && decide (t[col.toNat]? = some v)

set_option maxRecDepth 100000 in
set_option maxHeartbeats 4000000 in
theorem whereK_any {W : World} {B : Option Addr} {d : Nat} {t : List GV} (ht : SliceIs Enc.val W W.heap.size B t.length d t) {gc gv : Nat} {col : Int} {v : GV} (hc : W.heap[gc]? = some (.cells #[.int .i64 col] 3 (0, 0))) (hv : W.heap[gv]? = some (.cells #[.int .i64 v.k, .int .i64 v.n, .string v.s] 56 (0, 0))) :
    Calls Try.prog 53 #[.slice B t.length d, .pointer (some ⟨gc, 0, none⟩), .pointer (some ⟨gv, 0, none⟩)] W (RetBool (whereB col v t) W) := by
  have hn := ht.bound
  have c0 : W.cell? ⟨gc, 0, none⟩ = some (.int .i64 col) := (cell_of_row _ _ 0 _ _ _ hc).trans rfl
  have v0 : W.cell? ⟨gv, 0, none⟩ = some (.int .i64 v.k) := (cell_of_row _ _ 0 _ _ _ hv).trans rfl
  have v1 : W.cell? ⟨gv, 1, none⟩ = some (.int .i64 v.n) := (cell_of_row _ _ 1 _ _ _ hv).trans rfl
  have v2 : W.cell? ⟨gv, 2, none⟩ = some (.string v.s) := (cell_of_row _ _ 2 _ _ _ hv).trans rfl
  clear hc hv
  by_cases h0 : 0 ≤ col
  · by_cases h1 : col < (t.length : Int)
    · have o1 : decide (0 ≤ col) = true := by simpa using h0
      have o2 : decide (col < (t.length : Int)) = true := by simpa using h1
      obtain ⟨k, rfl⟩ : ∃ k : Nat, col = (k : Int) := ⟨col.toNat, by omega⟩
      have hk : k < t.length := by omega
      obtain ⟨b1, o, x, rfl, _, hx, x1, x2, x3, _⟩ := ht.val_at hk
      have e1 : whereB k v t = x.beq v := by
        unfold whereB
        simp only [Int.toNat_natCast, hx.out, GV.beq_dec, Option.some.injEq]
        simp
      have rn := run_eql_value x v
      rw [e1]
      generalize x.beq v = bb at *
      clear hx ht e1
      go_enter Try.func53, Try.ntmps53
      go_wp2_with fail
      cases bb <;>
      · go_quiet (fail)
        go_wp2_with fail
        go_ret
        exact ⟨rfl, below_drewN _ _ _⟩
    · have o1 : decide (0 ≤ col) = true := by simpa using h0
      have o2 : decide (col < (t.length : Int)) = false := by simpa using h1
      have e1 : whereB col v t = false := by
        unfold whereB
        rw [List.getElem?_eq_none (by omega)]; simp
      rw [e1]
      clear e1
      go_enter Try.func53, Try.ntmps53
      go_wp2_with fail
      go_quiet (fail)
      go_wp2_with fail
      go_ret
      exact ⟨rfl, below_drewN _ _ _⟩
  · have o1 : decide (0 ≤ col) = false := by simpa using h0
    have e1 : whereB col v t = false := by simp [whereB, h0]
    rw [e1]
    clear e1
    go_enter Try.func53, Try.ntmps53
    go_wp2_with fail
    go_quiet (fail)
    go_wp2_with fail
    go_ret
    exact ⟨rfl, below_drewN _ _ _⟩

def whereFn (gc gv : Nat) : Value := .func (.func 53) #[] #[.pointer (some ⟨gc, 0, none⟩), .pointer (some ⟨gv, 0, none⟩)]
def WherePost (p : Nat) (col : Int) (v : GV) (w : World) (e : Ending) (w' : World) : Prop := Below w.heap.size w w' ∧ ∃ g gc gv, w.heap.size ≤ g ∧ w.heap.size ≤ gc ∧ w.heap.size ≤ gv ∧ e = .returned (keptV g) ∧ w'.cell? ⟨g, 0, none⟩ = some (relP p) ∧ w'.cell? ⟨g + 1, 0, none⟩ = some (whereFn gc gv) ∧
  w'.heap[gc]? = some (.cells #[.int .i64 col] 3 (0, 0)) ∧ w'.heap[gv]? = some (.cells #[.int .i64 v.k, .int .i64 v.n, .string v.s] 56 (0, 0))
set_option maxRecDepth 100000 in
set_option maxHeartbeats 4000000 in
theorem where_any (p : Nat) (col : Int) (v : GV) (w : World) : Calls Try.prog 28 #[relP p, .int .i64 col, v.v] w (WherePost p col v w) := by
  unfold relP GV.v
  go_enter Try.func28, Try.ntmps28
  go_wp2
  go_ret
  refine ⟨belowA (belowA (belowA (belowA (Below.refl _ _) _) _) _) _, w.heap.size + 2, w.heap.size, w.heap.size + 1, by omega, by omega, by omega, rfl, ?_, ?_, ?_, ?_⟩
  · exact cellA ((cell_of_row _ _ 0 _ _ _ (heapNew (by simp))).trans rfl)
  · exact (cell_of_row _ _ 0 _ _ _ (heapNew (by simp))).trans rfl
  · exact heapOld (heapOld (heapOld (heapNew rfl)))
  · exact heapOld (heapOld (heapNew (by simp)))
end Go.Proofs.Ytgomfmfaoeojkaa
