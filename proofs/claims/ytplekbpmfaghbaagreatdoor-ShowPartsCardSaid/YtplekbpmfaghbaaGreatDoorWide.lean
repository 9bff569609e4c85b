/- Loads and new boxes of wide structs: no unrolling of cells. -/
import Derived.Test.YtplekbpmfaghbaaGreatDoorPgm
import Derived.Test.YtplekbpmfaghbaaGreatDoorExpSize
import Derived.Deep.MidRow
import Derived.Great.Walk
import Derived.Great.BuildSlice
namespace Go.Proofs.YtplekbpmfaghbaaGreatDoor
open Go.RowKit Go.Great

theorem setRow_new (w : World) (old cells : Array Value) (T : TypeId) : (w.alloc (.cells old T)).setRow w.heap.size cells = w.alloc (.cells cells T) := by
  have h : ((w.alloc (.cells old T)).setRow w.heap.size cells).heap = (w.alloc (.cells cells T)).heap := by
    apply Array.ext_getElem?
    intro i
    rcases Nat.lt_trichotomy i w.heap.size with h | h | h
    · have h1 := Below.heap_alloc w (.cells cells T) i h
      have h2 := Below.heap_alloc w (.cells old T) i h
      rw [h1, ← h2]
      simp only [World.setRow, Array.getElem?_modify]
      rw [if_neg (by omega)]
    · subst h
      have h1 := Go.heap_alloc_new w (.cells cells T)
      have h2 := Go.heap_alloc_new w (.cells old T)
      rw [h1]
      simp only [World.setRow, Array.getElem?_modify, if_true]
      rw [h2]; rfl
    · rw [Array.getElem?_eq_none (by simp [World.setRow]; omega), Array.getElem?_eq_none (by simp; omega)]
  exact congrArg (fun hp => ({ w.alloc (.cells cells T) with heap := hp } : World)) h
section
variable {P : Program}
set_option maxRecDepth 20000 in
theorem run_alloc_ty (ev : Operand → Value) (w : World) (o : Oper) (ty : TypeId) (ho : o.op = .alloc ty) (zs : Array Value) (n : Nat) (hi : (P.info? ty).map (fun i => (i.zero, i.size)) = some (some (.agg zs), n)) :
   (execOp ev o).run P w = .ok (.value (.pointer (some ⟨w.heap.size, 0, none⟩))) (w.alloc (.cells zs ty)) := by
  obtain ⟨i, hi1, hi2⟩ := Option.map_eq_some_iff.1 hi
  injection hi2 with h1 h2
  have hzv : (zeroValue ty).run P w = .ok (.agg zs) w := by simp [zeroValue, typeInfo, hi1, h1]
  unfold execOp
  simp [ho, go_sem, hzv]
/-- a new variable that a struct is put into: 'alloc' and 'store', the two of them -/
theorem wpList_new {ops : Array Oper} {rest : List Oper} {o1 o2 : Oper} {a : Act} {w : World} {Q : Exit → Act → World → Prop} (g1 : o1.guard = none) (g2 : o2.guard = none) (ty : TypeId) (d : Tmp) (x : Operand) (h1 : o1.op = .alloc ty) (hd1 : o1.dst = some d) (h2 : o2.op = .store ty (.tmp d) x) (hd2 : o2.dst = none)
    (zs : Array Value) (cells : Array Value) (hi : (P.info? ty).map (fun i => (i.zero, i.size)) = some (some (.agg zs), zs.size)) (hs : zs.size = cells.size) (hone : cells.all (·.oneCell') = true)
    (hp : (a.put (some d) (.pointer (some ⟨w.heap.size, 0, none⟩))).eval (.tmp d) = .pointer (some ⟨w.heap.size, 0, none⟩)) (hx : (a.put (some d) (.pointer (some ⟨w.heap.size, 0, none⟩))).eval x = .agg cells)
    (h : wpList P ops Q rest (a.put (some d) (.pointer (some ⟨w.heap.size, 0, none⟩))) (w.alloc (.cells cells ty))) : wpList P ops Q (o1 :: o2 :: rest) a w := by
  refine wpList_allocTo g1 (some d) hd1 _ _ (run_alloc_ty _ w o1 ty h1 zs _ hi) ?_
  refine wpList_store_rowTo g2 ty (.tmp d) x h2 hd2 w.heap.size cells hp hx ty zs (Go.heap_alloc_new w _) ?_ hs hone ?_
  · obtain ⟨i, hi1, hi2⟩ := Option.map_eq_some_iff.1 hi
    injection hi2 with h3 h4
    rw [hi1]; simp [h4, hs]
  · rw [setRow_new]; exact h
end
abbrev zLit : List Value := litC ⟨0, ⟨⟨#[]⟩, []⟩, 0, .mk 0 ⟨⟨#[]⟩, ⟨0, 0, ⟨#[]⟩⟩⟩ [], .mk 0 ⟨⟨#[]⟩, ⟨0, 0, ⟨#[]⟩⟩⟩ [], 0⟩ ⟨none, 0, 0⟩ ⟨none, 0, 0⟩ ⟨none, 0, 0⟩
theorem lit_info : (Tryz.prog.info? 38).map (fun i => (i.zero, i.size)) = some (some (.agg zLit.toArray), zLit.toArray.size) := by kernel_rfl
theorem lit_size (x : GLit) (a p q : Hd) : (Tryz.prog.info? 38).map (·.size) = some (litC x a p q).length := by
  show _ = some 17
  kernel_rfl
theorem lit_one (x : GLit) (a p q : Hd) : (litC x a p q).toArray.all (·.oneCell') = true := by simp [Value.oneCell']
/-- the literal at a place of a list -/
theorem SliceIs.lit_range {w : World} {B : Nat} {A : Option Addr} {n c d : Nat} {l : List GLit} (h : SliceIs (Enc.lit d) w B A n c l) {i : Nat} (hi : i < n) :
    ∃ (b o : Nat) (x : GLit) (a p q : Hd), A = some ⟨b, o, none⟩ ∧ b < B ∧ Hid (l[i]? = some x) ∧ LitAt d w B x a p q ∧ Hid (w.rangeAt b (o + i * 17) (litC x a p q)) := by
  obtain ⟨b, o, x, cs, hA, hb, hx, ⟨a, p, q, rfl, h1⟩, hc⟩ := h.at_ hi
  exact ⟨b, o, x, a, p, q, hA, hb, hx, h1, fun j v hj => by simpa [Enc.lit] using hc j v hj⟩
theorem range_row {w : World} {g : Nat} {T : TypeId} {cs : List Value} (h : w.heap[g]? = some (.cells cs.toArray T (0, 0))) : w.rangeAt g 0 cs := fun j v hj => by
  rw [cell_of_row _ _ _ _ _ _ h]; simpa using hj
end Go.Proofs.YtplekbpmfaghbaaGreatDoor
