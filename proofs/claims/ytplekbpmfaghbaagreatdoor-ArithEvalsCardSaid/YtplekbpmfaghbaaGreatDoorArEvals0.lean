/- A literal alone as a rule's body: its size, how it lies. -/
import Derived.Test.YtplekbpmfaghbaaGreatDoorArAl
import Derived.Test.YtplekbpmfaghbaaGreatDoorArRE
import Derived.Test.YtplekbpmfaghbaaGreatDoorMb1
import Derived.Test.YtplekbpmfaghbaaGreatDoorArLong
import Derived.Deep.RegionHeld3
namespace Go.Proofs.YtplekbpmfaghbaaGreatDoor
open Go.RowKit

theorem fitsZ : fits 0 := by unfold fits; decide
/-- a rule whose body is one literal -/
def ruleL (l : GLit) : GRule := ⟨⟨⟨#[]⟩, []⟩, 0, 0, [l], 0⟩
theorem one_lit {d : Nat} {W : World} {b : Nat} {T : TypeId} {x : GLit} {a p q : Hd} (hrow : W.heap[b]? = some (.cells (litC x a p q).toArray T (0, 0))) (hx : LitAt d W W.heap.size x a p q) :
    SliceIs (Enc.lit d) W W.heap.size (some ⟨b, 0, none⟩) 1 1 [x] := by
  refine ⟨rfl, by omega, by simp [maxLen], by simp [reachN], .inr ⟨b, 0, rfl, (Array.getElem?_eq_some_iff.1 hrow).1, fun i e hi => ?_⟩⟩
  match i, hi with
  | 0, hi =>
    simp at hi; subst hi
    refine ⟨litC x a p q, ⟨a, p, q, rfl, hx⟩, fun j v hj => ?_⟩
    show W.cell? ⟨b, 0 + 0 * 17 + j, none⟩ = some v
    rw [cell_of_row _ _ _ _ _ _ hrow]
    simp only [Nat.zero_mul, Nat.zero_add, List.getElem?_toArray]
    exact hj
  | i + 1, hi => simp at hi
theorem ruleL_at {d : Nat} {W : World} {b : Nat} {T : TypeId} {x : GLit} {a p q : Hd} (hrow : W.heap[b]? = some (.cells (litC x a p q).toArray T (0, 0))) (hx : LitAt d W W.heap.size x a p q) : RuleAt d W W.heap.size (ruleL x) ⟨none, 0, 0⟩ ⟨some ⟨b, 0, none⟩, 1, 1⟩ :=
  ⟨Nat.zero_le _, SliceIs.nil, fitsZ, fitsZ, one_lit hrow hx, fitsZ⟩
theorem szRL_pos {l : GLit} {v : Int} (h : 0 ≤ szR (ruleL l) v) : ∃ u : Int, u ≤ v ∧ 0 ≤ szLit l u := by
  unfold szR ruleL szA at h
  simp only [szT, szB] at h
  have e0 : ((⟨#[]⟩ : ByteArray).size / 50 : Nat) = 0 := rfl
  rw [e0] at h
  simp only [Int.ofNat_zero, Int.add_zero] at h
  split at h
  · omega
  · exact ⟨_, by omega, h⟩
theorem litOf_sm {x : GExp} {v : Int} (hv : v ≤ 1500) (h : 0 ≤ szR (ruleL (litOf x)) v) : Sm x := by
  obtain ⟨u, hu, h⟩ := szRL_pos h
  have h' : 0 ≤ szE zE (szE x (szA (litOf x).atom u)) := h
  have h2 := szE_pos _ _ h'
  have h3 := szA_le (litOf x).atom u
  exact Sm.of (l := szA (litOf x).atom u) (by omega) (by omega)
theorem litOf_at {d : Nat} {W : World} {x : GExp} {A : Option Addr} {n c : Nat} (hop : fits x.op) (hx : x.t.x.size ≤ reachN) (hv : x.t.v.ok) (hk : SliceIs (Enc.exp d) W W.heap.size A n c x.kids) : LitAt d W W.heap.size (litOf x) ⟨none, 0, 0⟩ ⟨A, n, c⟩ ⟨none, 0, 0⟩ :=
  ⟨fitsZ, fitsZ, fitsZ, Nat.zero_le _, SliceIs.nil, hop, hx, hv, hk, fitsZ, Nat.zero_le _, ⟨fitsZ, fitsZ, Nat.zero_le _⟩, SliceIs.nil⟩
end Go.Proofs.YtplekbpmfaghbaaGreatDoor
