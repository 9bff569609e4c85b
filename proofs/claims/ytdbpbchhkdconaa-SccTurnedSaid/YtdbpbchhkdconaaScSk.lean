/- A row that was sorted. Nothing of any program. -/
import Derived.Test.YtdbpbchhkdconaaScT
import Derived.Sort.Grow
import Derived.Sort.Row
namespace Go.Proofs.Ytdbpbchhkdconaa
open Go.RowKit Go.Sort

theorem own_sorted {α : Type} [Inhabited α] {enc : α → Value} {w : World} {B e b n c k : Nat} {xs : List Value} {d : Array α} {os : Array Obj} (h : w.ownsRow B e 1 (.slice (some ⟨b, 0, none⟩) n c) n xs) (hd : d.size = n) :
    (grow (putRow enc (Sort.ahead w k) b 0 d) os).ownsRow B e 1 (.slice (some ⟨b, 0, none⟩) n c) n (d.toList.map enc) ∧ Out [b] w (grow (putRow enc (Sort.ahead w k) b 0 d) os) := by
  obtain ⟨h1, h2⟩ := h
  rcases h2 with ⟨hv, -⟩ | ⟨g, cap, cur, hv, hg, hh, hnc, hcm, hs, ht⟩
  · cases hv
  simp only [Value.slice.injEq, Option.some.injEq, Addr.mk.injEq, and_true, true_and] at hv
  obtain ⟨rfl, rfl⟩ := hv
  have hbl : b < w.heap.size := (Array.getElem?_eq_some_iff.1 hh).1
  have hget : (grow (putRow enc (Sort.ahead w k) b 0 d) os).heap[b]? = some (.cells (putCells enc 0 d cur) e (0, 0)) := by
    rw [heap_grow_old _ _ (by simpa using hbl)]
    show (w.heap.modify b (onCells (putCells enc 0 d)))[b]? = _
    rw [Array.getElem?_modify, if_pos rfl, hh]
    rfl
  refine ⟨⟨by simp [hd], .inr ⟨b, c, _, rfl, hg, hget, hnc, hcm, by simp [putCells, hs], ?_⟩⟩, ⟨rfl, rfl, rfl, by simp, fun x hx hxb => ?_⟩⟩
  · apply List.ext_getElem?
    intro i
    simp only [Nat.mul_one] at hs ⊢
    rw [List.getElem?_take]
    by_cases hi : i < n
    · rw [if_pos hi, Array.getElem?_toList]
      have hic : i < cur.size := by omega
      simp only [putCells, Array.getElem?_mapIdx, Array.getElem?_eq_getElem hic, Option.map_some, List.getElem?_map, Array.getElem?_toList]
      rw [if_pos ⟨Nat.zero_le _, by omega⟩, Nat.sub_zero, getElem!_pos d i (by omega), Array.getElem?_eq_getElem (by omega)]
      rfl
    · rw [if_neg hi, List.getElem?_eq_none (by simp; omega)]
  · rw [heap_grow_old _ _ (by simpa using hx)]
    show (w.heap.modify b (onCells (putCells enc 0 d)))[x]? = _
    rw [Array.getElem?_modify, if_neg (fun e => hxb (by simp [← e]))]
theorem own_holds {w : World} {B e b n c : Nat} {xs : List Value} {α : Type} [Inhabited α] {enc : α → Value} {d : Array α} (h : w.ownsRow B e 1 (.slice (some ⟨b, 0, none⟩) n c) n xs) (hd : d.toList.map enc = xs) : Holds enc w b 0 d := by
  obtain ⟨h1, h2⟩ := h
  rcases h2 with ⟨hv, -⟩ | ⟨g, cap, cur, hv, hg, hh, hnc, hcm, hs, ht⟩
  · cases hv
  simp only [Value.slice.injEq, Option.some.injEq, Addr.mk.injEq, and_true, true_and] at hv
  obtain ⟨rfl, rfl⟩ := hv
  intro j hj
  refine ⟨?_, frozen_of_row _ _ _ _ _ hh⟩
  rw [cell_of_row _ _ _ _ _ _ hh, Nat.zero_add, getElem!_pos d j hj]
  have hn : n = d.size := by rw [← hd] at h1; simpa using h1.symm
  have e1 : (cur.toList.take (n * 1))[j]? = some (enc d[j]) := by
    rw [ht, ← hd, List.getElem?_map, Array.getElem?_toList, Array.getElem?_eq_getElem hj]; rfl
  rw [List.getElem?_take, if_pos (by omega), Array.getElem?_toList] at e1
  exact e1
end Go.Proofs.Ytdbpbchhkdconaa
