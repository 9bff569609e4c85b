/- Plain laws on worlds and rows, where the seat has not the relation's texts. No program. -/
import Derived.Test.YtdbpbchhkdconaaRange2
namespace Go.Proofs.Ytdbpbchhkdconaa
open Go.RowKit

theorem own_out' {w w' : World} {S : List Nat} {base e sz : Nat} {v : Value} {n : Nat} {xs : List Value} (h : w.ownsRow base e sz v n xs) (ho : Out S w w') (hS : ∀ b, v.ownBlock = some b → b ∉ S) : w'.ownsRow base e sz v n xs := by
  refine ⟨h.1, ?_⟩
  rcases h.2 with hn | ⟨g, cap, cur, rfl, hg, hh, r⟩
  · exact .inl hn
  · exact .inr ⟨g, cap, cur, rfl, hg, (ho.block g (Array.getElem?_eq_some_iff.1 hh).1 (hS g rfl)).trans hh, r⟩
theorem own_blk {w : World} {base e sz : Nat} {v : Value} {n : Nat} {xs : List Value} (h : w.ownsRow base e sz v n xs) {b : Nat} (hb : v.ownBlock = some b) : base ≤ b ∧ b < w.heap.size := by
  rcases h.2 with ⟨hn, _⟩ | ⟨g, cap, cur, rfl, hg, hh, r⟩
  · rw [hn] at hb; cases hb
  · injection hb with hb; subst hb; exact ⟨hg, (Array.getElem?_eq_some_iff.1 hh).1⟩
theorem set_one {W : World} {g e : Nat} {a b v : Value} (h : W.heap[g]? = some (.cells #[a, b] e (0, 0))) : (W.setCell ⟨g, 1, none⟩ v).heap[g]? = some (.cells #[a, v] e (0, 0)) := by
  simp [World.setCell, Array.getElem?_modify, h]
theorem set_zero {W : World} {g e : Nat} {a v : Value} (h : W.heap[g]? = some (.cells #[a] e (0, 0))) : (W.setCell ⟨g, 0, none⟩ v).heap[g]? = some (.cells #[v] e (0, 0)) := by
  simp [World.setCell, Array.getElem?_modify, h]
theorem World.heap_setCells_other' {W : World} {g i b : Nat} {v : Value} (h : b ≠ g) : (W.setCell ⟨g, i, none⟩ v).heap[b]? = W.heap[b]? := by
  simp [World.setCell, Array.getElem?_modify, Ne.symm h]
theorem World.size_setCell' {W : World} {a : Addr} {v : Value} : (W.setCell a v).heap.size = W.heap.size := by
  simp [World.setCell]
theorem set_out (W : World) (g i : Nat) (v : Value) : Out [g] W (W.setCell ⟨g, i, none⟩ v) :=
  ⟨rfl, rfl, rfl, by rw [World.size_setCell']; exact Nat.le_refl _, fun b _ hb => World.heap_setCells_other' (by simpa using hb)⟩
theorem grown_out {w w' : World} {row : Option Nat} (h : w.grownBy w' row) : Out row.toList w w' :=
  ⟨h.os, h.tape, h.output, h.size, fun b hb hr => h.block b hb (fun e => hr (by simp [← e]))⟩
end Go.Proofs.Ytdbpbchhkdconaa
