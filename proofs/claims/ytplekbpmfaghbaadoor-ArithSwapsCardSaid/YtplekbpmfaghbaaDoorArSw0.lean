/- ArithSwaps: an expression of two leaves, plain law. -/
import Derived.Test.YtplekbpmfaghbaaDoorZgArSwB
namespace Go.Proofs.YtplekbpmfaghbaaDoor
open Go.RowKit

/-- a number -/
def nV (n : Int) : GV := ⟨1, n, ⟨#[]⟩⟩
theorem right_num {n : Int} (h : bndI n = true) : rightB (nV n) = true := rightB_num h
def leafE (a : GV) : GExp := ⟨0, ⟨⟨#[]⟩, a⟩, []⟩
/-- an expression of two leaves -/
def twoE (op : Int) (a b : GV) : GExp := ⟨op, ⟨⟨#[]⟩, gv0⟩, [leafE a, leafE b]⟩
theorem fits_zero : fits 0 := by unfold fits; decide
theorem gv0_ok : gv0.ok := ⟨fits_zero, fits_zero, Nat.zero_le _⟩
theorem leafE_right {k : Nat} {a : GV} (h : rightB a = true) : rightE k (leafE a) = true := by
  have ht : rightT ⟨⟨#[]⟩, a⟩ = true := by
    show (if (⟨#[]⟩ : ByteArray).size = 0 then rightB a else (singleB 3 ⟨#[]⟩ && decide (a = gv0))) = true
    have z : (⟨#[]⟩ : ByteArray).size = 0 := rfl
    rw [if_pos z]; exact h
  rw [rightE_leaf rfl]
  show (([] : List GExp).isEmpty && rightT ⟨⟨#[]⟩, a⟩) = true
  rw [ht]; rfl
theorem twoE_right {op : Int} {a b : GV} (h1 : 1 ≤ op) (h3 : op ≤ 3) (ha : rightB a = true) (hb : rightB b = true) : rightE 20 (twoE op a b) = true := by
  have h0 : ¬ (twoE op a b).op = 0 := by show ¬ op = 0; omega
  have ho : opE (twoE op a b) = true := by
    show (decide (1 ≤ op) && decide (op ≤ 3) && decide (zT = zT)) = true
    simp [h1, h3]
  rw [rightE_two h0 ho rfl, leafE_right ha, leafE_right hb]; rfl
theorem leafE_val {f : ByteArray → Option GV} {k : Nat} {a : GV} (h : rightB a = true) : evalS f k (leafE a) = (a, 0) := by
  rw [evalS_leaf rfl]
  have h0 : (leafE a).t.x.size = 0 := rfl
  have h1 : (leafE a).t.v = a := rfl
  unfold termS
  rw [if_pos h0, h1, if_pos h]
theorem twoE_val {f : ByteArray → Option GV} {op a b : Int} (h1 : 1 ≤ op) (h3 : op ≤ 3) (ha : bndI a = true) (hb : bndI b = true) : evalT f (twoE op (nV a) (nV b)) = ofW (opN op a b) := by
  have h0 : ¬ (twoE op (nV a) (nV b)).op = 0 := by show ¬ op = 0; omega
  rw [evalT, if_pos (twoE_right h1 h3 (right_num ha) (right_num hb)), evalS_two (k := 19) h0 rfl, leafE_val (right_num ha), leafE_val (right_num hb)]
  have e1 : numV (nV a, 0) = (a, 0) := by simp [numV, nV]
  have e2 : numV (nV b, 0) = (b, 0) := by simp [numV, nV]
  rw [e1, e2, if_neg (by simp), if_neg (by simp)]
  rfl
theorem swap_op {op a b : Int} (h : op = 1 ∨ op = 3) : opN op a b = opN op b a := by
  rcases h with rfl | rfl
  · simp [opN, Int.add_comm]
  · simp [opN, Int.mul_comm]
theorem holds_less {a b : Int} (ha : bndI a = true) (hb : bndI b = true) : holdsS 3 (nV a) (nV b) = (decide (a < b), 0) := by
  unfold holdsS
  rw [right_num ha, right_num hb, if_neg (by simp), if_neg (by simp [nV])]
  rfl
theorem holds_least {a b : Int} (ha : bndI a = true) (hb : bndI b = true) : holdsS 6 (nV a) (nV b) = (decide (b ≤ a), 0) := by
  unfold holdsS
  rw [right_num ha, right_num hb, if_neg (by simp), if_neg (by simp [nV])]
  rfl
theorem ofW_in {n : Int} (h : bndI n = true) : ofW n = (nV n, 0) := by rw [ofW, if_pos h]; rfl
theorem ofW_out {n : Int} (h : bndI n = false) : ofW n = (gv0, 10) := by rw [ofW, if_neg (by rw [h]; simp)]
theorem bnd_iff {n : Int} : bndI n = true ↔ -2147483647 ≤ n ∧ n ≤ 2147483647 := by simp [bndI]
/-- the cells of the two leaves -/
abbrev kidsC (a b : GV) : Array Value := #[.int .i64 0, .string ⟨#[]⟩, .int .i64 a.k, .int .i64 a.n, .string a.s, .slice none 0 0, .int .i64 0, .string ⟨#[]⟩, .int .i64 b.k, .int .i64 b.n, .string b.s, .slice none 0 0]
theorem kids_at {W : World} {b : Nat} {T : TypeId} {u v : GV} (hrow : W.heap[b]? = some (.cells (kidsC u v) T (0, 0))) (hu : u.ok) (hv : v.ok) :
    SliceIs (Enc.exp 1) W W.heap.size (some ⟨b, 0, none⟩) 2 2 [leafE u, leafE v] := by
  refine ⟨rfl, by omega, by simp [maxLen], by simp [reachN], .inr ⟨b, 0, rfl, (Array.getElem?_eq_some_iff.1 hrow).1, fun i e hi => ?_⟩⟩
  have leaf : ∀ (k : Nat) (x : GV), x.ok → (∀ j < 6, (kidsC u v)[k * 6 + j]? = [.int .i64 0, .string ⟨#[]⟩, .int .i64 x.k, .int .i64 x.n, .string x.s, .slice none 0 0][j]?) →
      ∃ cs, (Enc.exp 1).ok W W.heap.size cs (leafE x) ∧ ∀ j v, cs[j]? = some v → W.cell? ⟨b, 0 + k * 6 + j, none⟩ = some v := by
    intro k x hx hc
    refine ⟨[.int .i64 0, .string ⟨#[]⟩, .int .i64 x.k, .int .i64 x.n, .string x.s, .slice none 0 0], ⟨none, 0, 0, rfl, fits_zero, Nat.zero_le _, hx, SliceIs.nil⟩, fun j y hj => ?_⟩
    have hj6 : j < 6 := (List.getElem?_eq_some_iff.1 hj).1
    rw [cell_of_row _ _ _ _ _ _ hrow, Nat.zero_add, hc j hj6]
    exact hj
  match i, hi with
  | 0, hi =>
    simp at hi; subst hi
    exact leaf 0 u hu (fun j hj => by match j, hj with | 0, _ => rfl | 1, _ => rfl | 2, _ => rfl | 3, _ => rfl | 4, _ => rfl | 5, _ => rfl)
  | 1, hi =>
    simp at hi; subst hi
    exact leaf 1 v hv (fun j hj => by match j, hj with | 0, _ => rfl | 1, _ => rfl | 2, _ => rfl | 3, _ => rfl | 4, _ => rfl | 5, _ => rfl)
  | i + 2, hi => simp at hi
end Go.Proofs.YtplekbpmfaghbaaDoor
