/- My own texts DgB2, DgB3, as far as this claim needs them. -/
import Derived.Test.YtgphngjniplonaaGreatDoorZp25
import Derived.Lib.SliceRun
set_option linter.unusedVariables false
set_option linter.unusedSimpArgs false
set_option maxRecDepth 1000000
set_option maxHeartbeats 16000000
namespace Go.Proofs.YtgphngjniplonaaGreatDoor
open Go.RowKit Go.Sort Go.Shelf Go.Lib
theorem grow_more (w : World) (os : Array Obj) (o : Obj) : (grow w os).alloc o = grow w (os ++ #[o]) := by rw [alloc_eq_grow, grow_grow]
def Grows (w w' : World) : Prop := ∃ q os, w' = grow (w.drewN q) os
theorem Grows.refl (w : World) : Grows w w := ⟨0, #[], by rw [grow_empty]; rfl⟩
theorem Grows.alloc {w w' : World} (h : Grows w w') (o : Obj) : Grows w (w'.alloc o) := by
  obtain ⟨q, os, rfl⟩ := h
  exact ⟨q, _, grow_more _ _ _⟩
theorem Grows.drew {w w' : World} (h : Grows w w') : Grows w w'.drew := by
  obtain ⟨q, os, rfl⟩ := h
  exact ⟨q + 1, os, rfl⟩
theorem order_grows (x y : GEdge) (w : World) : Calls Tryz.prog 43 #[x.v, y.v] w (fun e w' => e = .returned (.int .i64 (ordE x y)) ∧ Grows w w') := by
  rw [← ordE_first]
  have hK := Lib.hid (fun p q w => cmpIE_any p q w)
  have hI := Lib.hid (fun b w => number_any b w)
  have f1 := cmpNE_fits x.a y.a
  have f2 := cmpNE_fits x.b y.b
  have f3 := cmpNE_fits (numbB x.n) (numbB y.n)
  have hO := Lib.hid (fun W => orE_any (some ⟨W.heap.size, 0, none⟩) 3 3 [cmpNE x.a y.a, cmpNE x.b y.b, cmpNE (numbB x.n) (numbB y.n)] (W.alloc (.cells #[.int .i64 (cmpNE x.a y.a), .int .i64 (cmpNE x.b y.b), .int .i64 (cmpNE (numbB x.n) (numbB y.n))] 3)).drew (ints3E (W := W) f1 f2 f3))
  generalize firstNZE [cmpNE x.a y.a, cmpNE x.b y.b, cmpNE (numbB x.n) (numbB y.n)] = res at hO ⊢
  clear f1 f2 f3
  go_enter Tryz.func43, Tryz.ntmps43
  go_wp2_with fail
  have hbw : Grows w ((w.alloc (.cells #[.int .i64 x.a, .int .i64 x.b, .bool x.n] 71)).alloc (.cells #[.int .i64 y.a, .int .i64 y.b, .bool y.n] 71)) := ((Grows.refl w).alloc _).alloc _
  have hg0 : ((w.alloc (.cells #[.int .i64 x.a, .int .i64 x.b, .bool x.n] 71)).alloc (.cells #[.int .i64 y.a, .int .i64 y.b, .bool y.n] 71)).heap[w.heap.size]? = some (.cells #[.int .i64 x.a, .int .i64 x.b, .bool x.n] 71 (0, 0)) := heapOld (heapNew rfl)
  have hg1 : ((w.alloc (.cells #[.int .i64 x.a, .int .i64 x.b, .bool x.n] 71)).alloc (.cells #[.int .i64 y.a, .int .i64 y.b, .bool y.n] 71)).heap[w.heap.size + 1]? = some (.cells #[.int .i64 y.a, .int .i64 y.b, .bool y.n] 71 (0, 0)) := heapNew (by simp)
  generalize (w.alloc (.cells #[.int .i64 x.a, .int .i64 x.b, .bool x.n] 71)).alloc (.cells #[.int .i64 y.a, .int .i64 y.b, .bool y.n] 71) = wb at hbw hg0 hg1 ⊢
  have hl0 := (Array.getElem?_eq_some_iff.1 hg0).1
  have hl1 := (Array.getElem?_eq_some_iff.1 hg1).1
  have Hk := Lib.hid (fun W (h : Below wb.heap.size wb W) => show W.cell? ⟨w.heap.size, 0, none⟩ = some (.int .i64 x.a) ∧ W.cell? ⟨w.heap.size, 1, none⟩ = some (.int .i64 x.b) ∧ W.cell? ⟨w.heap.size, 2, none⟩ = some (.bool x.n) ∧ W.cell? ⟨w.heap.size + 1, 0, none⟩ = some (.int .i64 y.a) ∧ W.cell? ⟨w.heap.size + 1, 1, none⟩ = some (.int .i64 y.b) ∧ W.cell? ⟨w.heap.size + 1, 2, none⟩ = some (.bool y.n) from
    ⟨(cell_of_row _ _ 0 _ _ _ ((h.block _ hl0).trans hg0)).trans rfl, (cell_of_row _ _ 1 _ _ _ ((h.block _ hl0).trans hg0)).trans rfl, (cell_of_row _ _ 2 _ _ _ ((h.block _ hl0).trans hg0)).trans rfl, (cell_of_row _ _ 0 _ _ _ ((h.block _ hl1).trans hg1)).trans rfl, (cell_of_row _ _ 1 _ _ _ ((h.block _ hl1).trans hg1)).trans rfl, (cell_of_row _ _ 2 _ _ _ ((h.block _ hl1).trans hg1)).trans rfl⟩)
  clear hg0 hg1 hl0 hl1
  go_region_held3 (fun w' => w'.cell? ⟨w.heap.size, 0, none⟩ = some (.int .i64 x.a) ∧ w'.cell? ⟨w.heap.size, 1, none⟩ = some (.int .i64 x.b) ∧ w'.cell? ⟨w.heap.size, 2, none⟩ = some (.bool x.n) ∧ w'.cell? ⟨w.heap.size + 1, 0, none⟩ = some (.int .i64 y.a) ∧ w'.cell? ⟨w.heap.size + 1, 1, none⟩ = some (.int .i64 y.b) ∧ w'.cell? ⟨w.heap.size + 1, 2, none⟩ = some (.bool y.n))
    (first
      | (refine Hk.out _ ?_; (repeat (first | with_reducible exact Below.refl _ _ | with_reducible assumption | with_reducible refine Below.drew ?_ | with_reducible refine belowA ?_ _)))
      | go_keep)
    ((first
      | (go_at_call 70
         refine (hK.out _ _ _).mono ?_
         rintro e w1 ⟨rfl, rfl⟩)
      | (go_at_call 71
         refine (hI.out _ _).mono ?_
         rintro e w1 ⟨rfl, rfl⟩)
      | (go_at_call 69
         refine (hO.out _).mono ?_
         rintro e w1 ⟨rfl, rfl⟩)))
  all_goals
    go_wp2_with fail
    go_ret
    refine ⟨by simp, ?_⟩
    repeat (first | with_reducible assumption | with_reducible refine Grows.drew ?_ | with_reducible refine Grows.alloc ?_ _)
theorem own_sortedK {w : World} {B e b n c k s : Nat} {xs : List Value} {d : Array Value} {os : Array Obj} (h : w.ownsRow B e s (.slice (some ⟨b, 0, none⟩) n c) n xs) (hd : d.size = n * s) :
    (grow (putRow id (Sort.ahead w k) b 0 d) os).ownsRow B e s (.slice (some ⟨b, 0, none⟩) n c) n d.toList ∧ Out [b] w (grow (putRow id (Sort.ahead w k) b 0 d) os) := by
  obtain ⟨h1, h2⟩ := h
  rcases h2 with ⟨hv, -⟩ | ⟨g, cap, cur, hv, hg, hh, hnc, hcm, hs, ht⟩
  · cases hv
  simp only [Value.slice.injEq, Option.some.injEq, Addr.mk.injEq, and_true, true_and] at hv
  obtain ⟨rfl, rfl⟩ := hv
  have hbl : b < w.heap.size := (Array.getElem?_eq_some_iff.1 hh).1
  have hns : n * s ≤ cur.size := by rw [hs]; exact Nat.mul_le_mul_right _ hnc
  have hget : (grow (putRow id (Sort.ahead w k) b 0 d) os).heap[b]? = some (.cells (putCells id 0 d cur) e (0, 0)) := by
    rw [heap_grow_old _ _ (by simpa using hbl)]
    show (w.heap.modify b (onCells (putCells id 0 d)))[b]? = _
    rw [Array.getElem?_modify, if_pos rfl, hh]
    rfl
  refine ⟨⟨by simp [hd], .inr ⟨b, c, _, rfl, hg, hget, hnc, hcm, by simp [putCells, hs], ?_⟩⟩, ⟨rfl, rfl, rfl, by simp, fun x hx hxb => ?_⟩⟩
  · apply List.ext_getElem?
    intro i
    rw [List.getElem?_take]
    by_cases hi : i < n * s
    · rw [if_pos hi, Array.getElem?_toList]
      have hic : i < cur.size := by omega
      simp only [putCells, Array.getElem?_mapIdx, Array.getElem?_eq_getElem hic, Option.map_some, Array.getElem?_toList]
      rw [if_pos ⟨Nat.zero_le _, by omega⟩, Nat.sub_zero, getElem!_pos d i (by omega), Array.getElem?_eq_getElem (by omega)]
      rfl
    · rw [if_neg hi, List.getElem?_eq_none (by simp; omega)]
  · rw [heap_grow_old _ _ (by simpa using hx)]
    show (w.heap.modify b (onCells (putCells id 0 d)))[x]? = _
    rw [Array.getElem?_modify, if_neg (fun e => hxb (by simp [← e]))]
theorem own_holdsK {w : World} {B e b n c s : Nat} {xs : List Value} {d : Array Value} (h : w.ownsRow B e s (.slice (some ⟨b, 0, none⟩) n c) n xs) (hd : d.toList = xs) : Holds id w b 0 d := by
  obtain ⟨h1, h2⟩ := h
  rcases h2 with ⟨hv, -⟩ | ⟨g, cap, cur, hv, hg, hh, hnc, hcm, hs, ht⟩
  · cases hv
  simp only [Value.slice.injEq, Option.some.injEq, Addr.mk.injEq, and_true, true_and] at hv
  obtain ⟨rfl, rfl⟩ := hv
  intro j hj
  refine ⟨?_, frozen_of_row _ _ _ _ _ hh⟩
  rw [cell_of_row _ _ _ _ _ _ hh, Nat.zero_add, getElem!_pos d j hj]
  have hn : n * s = d.size := by rw [← hd] at h1; simpa using h1.symm
  have e1 : (cur.toList.take (n * s))[j]? = some d[j] := by
    rw [ht, ← hd, Array.getElem?_toList, Array.getElem?_eq_getElem hj]
  rw [List.getElem?_take, if_pos (by omega), Array.getElem?_toList] at e1
  exact e1
def sortE (L : List GEdge) : List GEdge := L.mergeSort fun x y => !lessE y x
theorem lessE_irr (x : GEdge) : lessE x x = false := by unfold lessE; simp
theorem lessE_trans {x y z : GEdge} (h1 : lessE x y = true) (h2 : lessE y z = true) : lessE x z = true := by
  unfold lessE at *
  by_cases a1 : x.a = y.a
  · by_cases a2 : y.a = z.a
    · rw [if_pos a1] at h1; rw [if_pos a2] at h2; rw [if_pos (a1.trans a2)]
      by_cases b1 : x.b = y.b
      · by_cases b2 : y.b = z.b
        · rw [if_pos b1] at h1; rw [if_pos b2] at h2; rw [if_pos (b1.trans b2)]
          cases hx : x.n <;> cases hy : y.n <;> cases hz : z.n <;> simp_all
        · rw [if_neg b2] at h2; rw [if_neg (by rw [b1]; exact b2), b1]; exact h2
      · by_cases b2 : y.b = z.b
        · rw [if_neg b1] at h1; rw [← b2, if_neg b1]; exact h1
        · rw [if_neg b1] at h1; rw [if_neg b2] at h2
          simp only [decide_eq_true_eq] at h1 h2
          rw [if_neg (by omega)]; simp; omega
    · rw [if_neg a2] at h2; rw [if_neg (by rw [a1]; exact a2), a1]; exact h2
  · by_cases a2 : y.a = z.a
    · rw [if_neg a1] at h1; rw [← a2, if_neg a1]; exact h1
    · rw [if_neg a1] at h1; rw [if_neg a2] at h2
      simp only [decide_eq_true_eq] at h1 h2
      rw [if_neg (by omega)]; simp; omega
theorem lessE_total {x y : GEdge} (h1 : lessE x y = false) (h2 : lessE y x = false) : x = y := by
  obtain ⟨xa, xb, xn⟩ := x
  obtain ⟨ya, yb, yn⟩ := y
  unfold lessE at h1 h2
  simp only at h1 h2
  by_cases ha : xa = ya
  · rw [if_pos ha] at h1; rw [if_pos ha.symm] at h2
    by_cases hb : xb = yb
    · rw [if_pos hb] at h1; rw [if_pos hb.symm] at h2
      subst ha hb
      cases xn <;> cases yn <;> simp_all
    · rw [if_neg hb] at h1; rw [if_neg (Ne.symm hb)] at h2
      simp at h1 h2; omega
  · rw [if_neg ha] at h1; rw [if_neg (Ne.symm ha)] at h2
    simp at h1 h2; omega
theorem lt_ordE (x y : GEdge) : ltOf ordE x y = lessE x y := by
  unfold ltOf ordE
  cases h1 : lessE x y with
  | true => rfl
  | false => cases h2 : lessE y x <;> rfl
theorem swo_ordE : SWO (ltOf ordE) where
  irrefl x := by rw [lt_ordE, lessE_irr]
  trans x y z h1 h2 := by rw [lt_ordE] at *; exact lessE_trans h1 h2
  ntrans x y z h1 h2 := by
    rw [lt_ordE] at *
    cases hz : lessE x z with
    | false => rfl
    | true =>
      exfalso
      -- not x < y, not y < z
      cases hyx : lessE y x with
      | true => rw [lessE_trans hyx hz] at h2; cases h2
      | false =>
        obtain rfl := lessE_total h1 hyx
        rw [hz] at h2; cases h2
instance : Inhabited GEdge := ⟨⟨0, 0, false⟩⟩
theorem flatK_list (l : List GEdge) : (flatK GEdge.cells 3 l.toArray).toList = l.flatMap GEdge.cells := by
  apply List.ext_getElem?
  intro t
  by_cases ht : t < l.length * 3
  · have hq : t / 3 < l.length := by omega
    have hp := flat_piece (sz := 3) GEdge.cells (fun _ => rfl) l (t / 3) _ (List.getElem?_eq_getElem hq)
    have h1 : (l.flatMap GEdge.cells)[t]? = (l[t / 3]).cells[t % 3]? := by
      have h2 : ((l.flatMap GEdge.cells).drop (t / 3 * 3)).take 3 = (l[t / 3]).cells := hp
      rw [← h2, List.getElem?_take, if_pos (Nat.mod_lt _ (by omega)), List.getElem?_drop]
      congr 1; omega
    have h3 : t < (flatK GEdge.cells 3 l.toArray).size := by simpa using ht
    rw [h1, Array.getElem?_toList, Array.getElem?_eq_getElem h3, ← getElem!_pos _ t h3, get_flatK _ _ _ _ (by simpa using ht)]
    have h4 : (l.toArray)[t / 3]! = l[t / 3] := by rw [getElem!_pos _ _ (by simpa using hq)]; simp
    rw [h4]
    have h5 : t % 3 < (l[t / 3]).cells.length := Nat.mod_lt _ (by omega)
    rw [List.getElem?_eq_getElem h5, getElem!_pos (l[t / 3]).cells (t % 3) h5]
  · have hl : (l.flatMap GEdge.cells).length = l.length * 3 := flat_len (sz := 3) GEdge.cells (fun _ => rfl) l
    rw [List.getElem?_eq_none (by simp; omega), List.getElem?_eq_none (by omega)]
def SortEPost (B : Nat) (A : Option Addr) (n c : Nat) (L : List GEdge) (w : World) (e : Ending) (w' : World) : Prop :=
  e = .returned (.tuple #[]) ∧ w'.ownsRow B 71 3 (.slice A n c) n ((sortE L).flatMap GEdge.cells) ∧ Out (blkOf A) w w'
theorem sortE_any (B : Nat) (A : Option Addr) (n c : Nat) (L : List GEdge) (w : World) (h : w.ownsRow B 71 3 (.slice A n c) n (L.flatMap GEdge.cells)) (hl : L.length = n) (hn : n ≤ 1000000) :
    Calls Tryz.prog 67 #[.slice A n c, .func (.func 43) #[] #[]] w (SortEPost B A n c L w) := by
  rcases Nat.eq_zero_or_pos n with hz | hpos
  · subst hz
    refine (@Tryz.slices_SortFunc_none Nat _ A c _ w).mono ?_
    rintro e w' ⟨rfl, rfl⟩
    obtain rfl : L = [] := List.eq_nil_of_length_eq_zero hl
    exact ⟨rfl, by simpa [sortE] using h, Out.refl _ _⟩
  obtain ⟨b, rfl⟩ : ∃ b, A = some ⟨b, 0, none⟩ := by
    rcases h.2 with ⟨hv, h1⟩ | ⟨g, cap, cur, hv, r⟩
    · omega
    · simp only [Value.slice.injEq] at hv
      exact ⟨g, hv.1⟩
  have hbl : b < w.heap.size := (own_blk h rfl).2
  have eg : ∀ args w, (callFunc 43 args).run Tryz.prog w = .ok (.enter 43 args) w := enters_of Tryz.func43 (by kernel_rfl) rfl
  have hcmp : CmpLays Tryz.prog 43 #[] GEdge.cells 3 ordE b 0 L.toArray.size w := fun m os dk _ x y => order_grows x y _
  have hH : HoldsK GEdge.cells 3 w b 0 L.toArray := own_holdsK h (flatK_list L)
  have hds : L.toArray.size = n := by simpa using hl
  have hS := Tryz.slices_SortFunc_total 3 Tryz.isAgg71 Tryz.sizeOf71 GEdge.cells (fun _ => rfl) (fun x v hv => by simp [GEdge.cells] at hv; rcases hv with rfl | rfl | rfl <;> rfl) ordE swo_ordE 43 #[] b 0 c L.toArray w eg hcmp hH hbl (by rw [hds]; omega) (fun x y h1 h2 => by rw [lt_ordE] at h1 h2; exact lessE_total h1 h2)
  rw [hds] at hS
  refine hS.mono ?_
  rintro e w' ⟨rfl, k, os, rfl⟩
  have e1 : (fun x y => !ltOf ordE y x) = fun x y : GEdge => !lessE y x := by funext x y; rw [lt_ordE]
  rw [e1, List.toList_toArray]
  have hsl : (sortE L).length = n := by unfold sortE; rw [List.length_mergeSort]; exact hl
  have h2 := own_sortedK (d := flatK GEdge.cells 3 (sortE L).toArray) (k := k) (os := os) h (by rw [size_flatK]; simp [hsl])
  rw [flatK_list] at h2
  exact ⟨rfl, h2.1, h2.2⟩
end Go.Proofs.YtgphngjniplonaaGreatDoor
namespace Go.Proofs.YtgphngjniplonaaGreatDoor
open Go.RowKit
abbrev graphV (n : Int) (A : Option Addr) (m c : Nat) : Value := .agg #[.int .i64 n, .slice A m c]
end Go.Proofs.YtgphngjniplonaaGreatDoor

namespace Go.Proofs.YtgphngjniplonaaGreatDoor
open Go.RowKit Go.Shelf
attribute [local go_sem] Oper.semAt_some
end Go.Proofs.YtgphngjniplonaaGreatDoor
namespace Go.Proofs.YtgphngjniplonaaGreatDoor
open Go.RowKit Go.Shelf
attribute [local go_sem] Oper.semAt_some
theorem wpListIn_app {F : Fence} {n : Nat} {P : Program} {w w' : World} {ops : Array Oper} {rest : List Oper} {o : Oper} {a : Act} {Q : Exit → Act → World → Prop} {v' : Value} (hg : o.guard = none) (s x : Operand) (t : TypeId)
    (hop : o.op = .call { callee := .builtin .append, args := #[s, x], argTypes := #[t, t] }) (v xv : Value) (hs : a.eval s = v) (hx : a.eval x = xv)
    (hrun : (Builtin.append_ #[t, t] o.type #[v, xv]).run P w = .ok v' w') (h : wpListIn F n P ops Q rest (a.put o.dst v') w') : wpListIn F n P ops Q (o :: rest) a w := by
  refine wpListIn_plain hg fun K hK' => ?_
  unfold Oper.wpIn
  refine ⟨?_, ?_⟩
  · simp [Oper.about, hop, resolve, Target.leads, Sem.run_pure]
  · rw [Oper.semAt_plain F _ _ (by rw [hop]; intro c hc'; cases hc')]
    simp [execOp, hop, resolve, invoke, builtin, hs, hx, hrun, Result.andThen]
    exact hK' _ _ h
end Go.Proofs.YtgphngjniplonaaGreatDoor
namespace Go.Proofs.YtgphngjniplonaaGreatDoor
open Go.RowKit
theorem set_cell8 {W : World} {g e i : Nat} {xs : Array Value} {v : Value} (h : W.heap[g]? = some (.cells xs e (0, 0))) : (W.setCell ⟨g, i, none⟩ v).heap[g]? = some (.cells (xs.setIfInBounds i v) e (0, 0)) := by
  simp [World.setCell, Array.getElem?_modify, h]
end Go.Proofs.YtgphngjniplonaaGreatDoor
namespace Go.Proofs.YtgphngjniplonaaGreatDoor
open Go.RowKit
theorem info_edge : (Tryz.prog.info? 71).map (fun i => (i.zero, i.size, i.bytes)) = some (some (.agg #[.int .i64 0, .int .i64 0, .bool false]), 3, 24) := by kernel_rfl
theorem edge_one (x : GEdge) : ∀ u ∈ x.cells, u.oneCell' = true := by
  intro u hu
  simp [GEdge.cells] at hu
  rcases hu with rfl | rfl | rfl <;> rfl
def FirstE (p : GEdge → Bool) (L : List GEdge) (w : World) (e : Ending) (w' : World) : Prop := Below w.heap.size w w' ∧ ((e = .returned (.int .i64 (-1)) ∧ ∀ x ∈ L, p x = false) ∨ ∃ (k : Nat) (x : GEdge), e = .returned (.int .i64 k) ∧ L[k]? = some x ∧ p x = true ∧ ∀ y ∈ L.take k, p y = false)
theorem flat3_get : ∀ (R : List GEdge) (tl : List Value) (t u : Nat) (x : GEdge), R[t]? = some x → u < 3 → (R.flatMap GEdge.cells ++ tl)[t * 3 + u]? = x.cells[u]?
  | [], _, _, _, _, h, _ => by simp at h
  | y :: R, tl, 0, u, x, h, hu => by
    simp at h; subst h
    rw [List.flatMap_cons, List.append_assoc, List.getElem?_append_left (by show 0 * 3 + u < y.cells.length; show _ < 3; omega), Nat.zero_mul, Nat.zero_add]
  | y :: R, tl, t + 1, u, x, h, hu => by
    rw [List.flatMap_cons, List.append_assoc, List.getElem?_append_right (by show y.cells.length ≤ _; show 3 ≤ _; omega)]
    have e : (t + 1) * 3 + u - y.cells.length = t * 3 + u := by show (t + 1) * 3 + u - 3 = _; omega
    rw [e]
    exact flat3_get R tl t u x (by simpa using h) hu
theorem flat3_set : ∀ (R : List GEdge) (tl : List Value) (t : Nat) (x : GEdge), t < R.length → (((R.flatMap GEdge.cells ++ tl).set (t * 3) (.int .i64 x.a)).set (t * 3 + 1) (.int .i64 x.b)).set (t * 3 + 2) (.bool x.n) = (R.set t x).flatMap GEdge.cells ++ tl
  | [], _, _, _, h => by simp at h
  | y :: R, tl, 0, x, _ => by simp [GEdge.cells]
  | y :: R, tl, t + 1, x, h => by
    have ih := flat3_set R tl t x (by simpa using h)
    have e : (t + 1) * 3 = t * 3 + 1 + 1 + 1 := by omega
    rw [e]
    simp only [List.flatMap_cons, GEdge.cells, List.cons_append, List.nil_append, List.set_cons_succ]
    rw [ih]
theorem run_clear_edges (w : World) (ty : TypeId) (b o n c : Nat) (hn : 0 < n) (hc : ∀ j, j < n * 3 → (w.cell? ⟨b, o + j, none⟩).isSome = true) (hf : ∀ j, j < n * 3 → w.frozen? ⟨b, o + j, none⟩ = false) :
    ∃ Z : List Value, (Builtin.clear_ #[29] ty #[.slice (some ⟨b, o, none⟩) n c]).run Tryz.prog w = .ok (.tuple #[]) (w.setCells b o Z) := by
  have hv : ∀ w, (zeroValue 71).run Tryz.prog w = .ok (.agg #[.int .i64 0, .int .i64 0, .bool false]) w := fun w => by kernel_rfl
  refine ⟨(Builtin.zeroCells #[.int .i64 0, .int .i64 0, .bool false] n).toList, ?_⟩
  have hlen : (Builtin.zeroCells #[Value.int .i64 0, .int .i64 0, .bool false] n).toList.length = n * 3 := by simp [Builtin.zeroCells]
  have hone : ∀ v ∈ (Builtin.zeroCells #[Value.int .i64 0, .int .i64 0, .bool false] n).toList, v.oneCell' = true := by
    intro v hv
    simp only [Builtin.zeroCells, Array.toList_map, List.mem_map] at hv
    obtain ⟨i, -, rfl⟩ := hv
    have : i % 3 = 0 ∨ i % 3 = 1 ∨ i % 3 = 2 := by omega
    rcases this with h | h | h <;> · show (#[Value.int .i64 0, .int .i64 0, .bool false][i % 3]!).oneCell' = true; rw [h]; rfl
  have hst := run_storeCells_cells (P := Tryz.prog) b o (Builtin.zeroCells #[Value.int .i64 0, .int .i64 0, .bool false] n).toList 0 w (by rw [hlen]; simpa using hc) (by rw [hlen]; simpa using hf) hone
  simp only [Nat.add_zero] at hst
  obtain ⟨m, rfl⟩ : ∃ m, n = m + 1 := ⟨n - 1, by omega⟩
  simp [Builtin.clear_, run_underlying Tryz.underlying29, hv, Value.cells, hst]
theorem below_cells (B g : Nat) (hg : B ≤ g) : ∀ (vs : List Value) (o : Nat) (w : World), Below B w (w.setCells g o vs)
  | [], _, _ => Below.refl _ _
  | v :: vs, o, w => ((Below.refl B w).setCell (p := ⟨g, o, none⟩) hg v).trans (below_cells B g hg vs (o + 1) _)
end Go.Proofs.YtgphngjniplonaaGreatDoor
namespace Go.Proofs.YtgphngjniplonaaGreatDoor
open Go.RowKit Go.Shelf
attribute [local go_sem] Oper.semAt_some
def encE (x : GEdge) : Array Value := #[x.v]
theorem encE_one (x : GEdge) : encE x = #[.agg #[.int .i64 x.a, .int .i64 x.b, .bool x.n]] := rfl
def RE (L : List GEdge) (pre : List GEdge) (x : GEdge) (_base : Nat) (_W : World) : Prop := (pre ++ [x]) <+: L
theorem values_any (A : Option Addr) (n c : Nat) (w : World) : Calls Tryz.prog 42 #[.slice A n c] w (fun e w' => e = .returned (.func (.func 68) #[] #[.pointer (some ⟨w.heap.size, 0, none⟩)]) ∧ w' = w.alloc (.cells #[.slice A n c] 29)) := by
  go_enter Tryz.func42, Tryz.ntmps42
  go_wp2_with fail
  go_ret
  exact ⟨by simp, rfl⟩
theorem values_seq {w0 w : World} {A : Option Addr} {m c : Nat} {l : List GEdge} (hl : SliceIs Enc.edge w0 w0.heap.size A m c l) (hb0 : Below w0.heap.size w0 w) {g : Nat} (hg : w.heap[g]? = some (.cells #[.slice A m c] 29 (0, 0)))
    (S : List Nat) (hS : ∀ b ∈ S, w0.heap.size ≤ b) :
    SeqR2 Tryz.prog 68 #[.pointer (some ⟨g, 0, none⟩)] encE (RE l) S (fun xs => Hid (xs = l)) (fun pre => Hid (pre <+: l)) w := by
  intro lp J Jx W hbW hlp hlW hJ h0 hY
  have HJ := Lib.hid hJ
  have H0 := Lib.hid h0
  have HY := Lib.hid hY
  have gl : g < w.heap.size := (Array.getElem?_eq_some_iff.1 hg).1
  have hsW := hbW.size
  have hs0 := hb0.size
  have hglW : g < W.heap.size := by omega
  have hneq : g ≠ lp := by omega
  have HK : Hid (∀ V : World, (∀ b, b < W.heap.size → b ≠ lp → b ∉ S → V.heap[b]? = W.heap[b]?) → W.heap.size ≤ V.heap.size → SliceIs Enc.edge V V.heap.size A m c l) := by
    intro V hV hz
    have hk : ∀ b, b < w0.heap.size → V.heap[b]? = w0.heap[b]? := fun b hb => (hV b (by omega) (by omega) (fun hbS => by have := hS b hbS; omega)).trans ((hbW.block b (by omega)).trans (hb0.block b hb))
    exact hl.mono (by omega) hk
  have hgW := (hbW.block g gl).trans hg
  have Hm : Hid (l.length = m) := hl.1
  have hbm := hl.bound
  have c0 : W.cell? ⟨g, 0, none⟩ = some (.slice A m c) := (cell_of_row _ _ 0 _ _ _ hgW).trans rfl
  have HJ0 : Hid (J W.heap.size [] W) := H0.out _ W (Below.refl _ _) (Nat.le_refl _) (Nat.le_refl _)
  clear hl hg hJ h0 hY hgW H0
  refine (callsIn_wide (n := 0)).1 ?_
  refine callsIn_of_wp Tryz.func68 rfl trivial ?_ rfl
  simp only [Tryz.ntmps68, List.size_toArray, List.length_cons, List.length_nil, Nat.reduceAdd, Nat.reduceSub, Array.replicate_succ, Array.replicate_zero, List.push_toArray, List.append_toArray, List.nil_append, List.cons_append]
  gi_wp2_with fail
  clear c0
  gi_loopw [4, 7] (fun _ i wr => ∃ (k : Nat), k ≤ m ∧ i = .int .i64 (k : Int) ∧ Hid (J W.heap.size (l.take k) wr) ∧ Hid (∀ b, b < W.heap.size → b ≠ lp → b ∉ S → wr.heap[b]? = W.heap[b]?) ∧ W.heap.size ≤ wr.heap.size) (fun _ i _ => m - (intOf i).toNat)
  case atStart => exact ⟨0, by omega, rfl, HJ0, (fun _ _ _ _ => rfl), Nat.le_refl _⟩
  case round =>
    obtain ⟨k, hk, rfl, HJk, HBk, hNk⟩ := hrel
    have i0 : (0 : Int) ≤ (k : Int) := by omega
    by_cases hlt : k < m
    · have i1 : (k : Int) < (m : Int) := by omega
      obtain ⟨b, o, x, rfl, hbl, hx, x0, x1, x2, -⟩ := (HK.out wr HBk.out hNk).edge_at hlt
      have e : l.take (k + 1) = l.take k ++ [x] := by rw [List.take_add_one, hx.out]; rfl
      have HP : Hid ((l.take k ++ [x]) <+: l) := by show _ <+: _; rw [← e]; exact List.take_prefix _ _
      have He := Lib.hid e
      have hba : Below wr.heap.size wr (wr.alloc (.cells #[.int .i64 x.a, .int .i64 x.b, .bool x.n] 71)) := belowA (Below.refl _ _) _
      have e0 : (wr.alloc (.cells #[.int .i64 x.a, .int .i64 x.b, .bool x.n] 71)).cell? ⟨wr.heap.size, 0, none⟩ = some (.int .i64 x.a) := (cell_of_row _ _ 0 _ _ _ (heapNew (w := wr) rfl)).trans rfl
      have e1 : (wr.alloc (.cells #[.int .i64 x.a, .int .i64 x.b, .bool x.n] 71)).cell? ⟨wr.heap.size, 1, none⟩ = some (.int .i64 x.b) := (cell_of_row _ _ 1 _ _ _ (heapNew (w := wr) rfl)).trans rfl
      have e2 : (wr.alloc (.cells #[.int .i64 x.a, .int .i64 x.b, .bool x.n] 71)).cell? ⟨wr.heap.size, 2, none⟩ = some (.bool x.n) := (cell_of_row _ _ 2 _ _ _ (heapNew (w := wr) rfl)).trans rfl
      have HYs := Lib.hid (fun mm => HY.out mm W.heap.size (l.take k) x wr _ HJk.out hba HP.out)
      have Hba := Lib.hid hba
      obtain ⟨fn, tmps, assign, body, hy, hR⟩ := HYs.out 0
      have HRR := Lib.hid hR
      rw [encE_one] at hy
      clear hR HYs hx e hba
      gi_wp2_with fail
      refine ⟨rfl, HRR.out.mono ?_⟩
      rintro e w4 (⟨rfl, hj, hz4, hbl4, hfr⟩ | ⟨rfl, hj⟩)
      · have HJ4 : Hid (J W.heap.size (l.take (k + 1)) w4) := by
          show J _ _ _
          rw [He.out]; exact hj
        have HB4 : Hid (∀ b, b < W.heap.size → b ≠ lp → b ∉ S → w4.heap[b]? = W.heap[b]?) := fun b hb hbl' hbS => (hbl4 b hb hbS hbl').trans ((Hba.out.block b (by omega)).trans (HBk.out b hb hbl' hbS))
        have hz5 : W.heap.size ≤ w4.heap.size := by have := Hba.out.size; omega
        clear hj hbl4 hfr hy HRR Hba HBk HJk
        gi_wp2_with fail
        go_roundw
        case rel => exact ⟨k + 1, by omega, by go_num, HJ4, HB4, hz5⟩
        case measure => simp [intOf]; omega
      · have HJ4 := Lib.hid hj
        clear hj hy HRR Hba HBk HJk
        gi_wp2_with fail
        first
          | exact ⟨⟨_, rfl⟩, .inr ⟨W.heap.size, _, HP, HJ4.out⟩⟩
          | (refine bodyPost_ret (results_none rfl _ _ _) rfl ?_; exact ⟨⟨_, rfl⟩, .inr ⟨W.heap.size, _, HP, HJ4.out⟩⟩)
    · have i1 : ¬ (k : Int) < (m : Int) := by omega
      have HE : Hid (l.take k = l) := List.take_of_length_le (by rw [Hm.out]; omega)
      gi_wp2_with fail
      go_end0
      exact ⟨⟨_, rfl⟩, .inl ⟨W.heap.size, _, HE, HJk.out⟩⟩
theorem edge_push {W : World} {base : Nat} {A : Option Addr} {c k : Nat} {xs : List GEdge} (hown : W.ownsRow base 71 3 (.slice A k c) k (xs.flatMap GEdge.cells)) (q : GEdge) (hn : k + 1 ≤ 1000000) (hb : base ≤ W.heap.size) :
    ∃ A' c' w', (∀ ty, (Builtin.append_ #[29, 29] ty #[.slice A k c, .slice (some ⟨W.heap.size, 0, none⟩) 1 1]).run Tryz.prog (W.alloc (.cells #[.int .i64 q.a, .int .i64 q.b, .bool q.n] 71)) = .ok (.slice A' (k + 1) c') w') ∧
      w'.ownsRow base 71 3 (.slice A' (k + 1) c') (k + 1) ((xs ++ [q]).flatMap GEdge.cells) ∧ Out (Value.slice A k c).ownBlock.toList W w' ∧ Below base W w' := by
  have ho : (W.alloc (.cells #[.int .i64 q.a, .int .i64 q.b, .bool q.n] 71)).ownsRow base 71 3 (.slice A k c) k (xs.flatMap GEdge.cells) := own_below hown (belowA (Below.refl _ _) _)
  obtain ⟨v', w', h1, h2, h3, h4⟩ := run_push_at (P := Tryz.prog) (ty := 29) (W.alloc (.cells #[.int .i64 q.a, .int .i64 q.b, .bool q.n] 71)) (base := base) Tryz.underlying29 info_edge rfl (by decide) ho W.heap.size (GEdge.cells q) rfl (heapNew rfl) (edge_one q)
    (by simp [maxLen]; omega) (by omega) (by simp; omega)
  obtain ⟨A', c', rfl⟩ := own_form h2
  refine ⟨A', c', w', fun _ => h1, ?_, ?_, ?_⟩
  · rw [List.flatMap_append]; simpa using h2
  · have h5 := (Out.of_below (belowA (Below.refl W.heap.size W) (.cells #[.int .i64 q.a, .int .i64 q.b, .bool q.n] 71)) (Value.slice A k c).ownBlock.toList)
    exact h5.trans (grown_out h3) (fun b hb _ => hb)
  · exact ((Below.refl base W).alloc hb _).trans h4
def CollEPost (L : List GEdge) (w : World) (r : Ending) (w' : World) : Prop :=
  ∃ A c, r = .returned (.slice A L.length c) ∧ w'.ownsRow w.heap.size 71 3 (.slice A L.length c) L.length (L.flatMap GEdge.cells) ∧ Below w.heap.size w w'
theorem appendSeqE_any {w0 w : World} {A : Option Addr} {m c : Nat} {l : List GEdge} (hl : SliceIs Enc.edge w0 w0.heap.size A m c l) (hb0 : Below w0.heap.size w0 w) {g : Nat} (hg : w.heap[g]? = some (.cells #[.slice A m c] 29 (0, 0))) (hm : m ≤ 10000) :
    Calls Tryz.prog 95 #[.slice none 0 0, .func (.func 68) #[] #[.pointer (some ⟨g, 0, none⟩)]] w (CollEPost l w) := by
  have hgl := (Array.getElem?_eq_some_iff.1 hg).1
  have HQ := Lib.hid (values_seq hl hb0 hg [w.heap.size] (fun b hb => by have := hb0.size; simp at hb; omega))
  have hlen : l.length ≤ 10000 := by have := hl.1; omega
  obtain ⟨P, HP⟩ : ∃ P : Ending → World → Prop, Hid (P = CollEPost l w) := ⟨_, rfl⟩
  rw [← HP.out]
  clear hg hb0 hl hgl
  refine (callsIn_wide (n := 8)).1 ?_
  refine callsIn_of_wp_marks Tryz.func95 rfl trivial ?_ rfl
  simp only [Tryz.ntmps95, List.size_toArray, List.length_cons, List.length_nil, Nat.reduceAdd, Nat.reduceSub, Array.replicate_succ, Array.replicate_zero, List.push_toArray, List.append_toArray, List.nil_append, List.cons_append]
  refine wpIn_wide.2 ?_
  go_wp2_with fail
  have hr0 : (w.alloc (.cells #[.slice none 0 0] 29)).heap[w.heap.size]? = some (.cells #[.slice none 0 0] 29 (0, 0)) := heapNew rfl
  have hbw : Below w.heap.size w (w.alloc (.cells #[.slice none 0 0] 29)) := belowA (Below.refl _ _) _
  have hz1 : (w.alloc (.cells #[.slice none 0 0] 29)).heap.size = w.heap.size + 1 := by simp
  generalize w.alloc (.cells #[.slice none 0 0] 29) = w1 at *
  refine (wpIn_wide (n := 8)).1 (range_law2 (hg := rfl) (eg := enters_of Tryz.func68 (by kernel_rfl) rfl) (hseq := HQ.out) (hb0 := hbw) ?hS (hps := fun _ => rfl)
    (I := fun N pre W => (∃ A c, W.heap[w.heap.size]? = some (.cells #[.slice A pre.length c] 29 (0, 0)) ∧ Hid (W.ownsRow N 71 3 (.slice A pre.length c) pre.length (pre.flatMap GEdge.cells))) ∧ Below w.heap.size w W ∧ w1.heap.size ≤ N)
    (Ix := fun _ _ _ _ => False)
    ?hI ?hIx ?h0 ?round ?done ?stop)
  case hS => intro b hb; simp at hb; omega
  case hI =>
    rintro N pre W W' ⟨⟨A, c, h5, h6⟩, h7, h8⟩ hs'
    exact ⟨⟨A, c, hs'.row h5, hs'.own h6.out⟩, h7.trans (hs'.below (by omega) h7.size), h8⟩
  case hIx => exact fun _ _ _ _ _ h _ => h
  case h0 =>
    intro N W hs' hN0 _
    exact ⟨⟨none, 0, hs'.row hr0, World.ownsRow_nil _ _ _ _⟩, hbw.trans (hs'.below (by omega) hbw.size), by omega⟩
  case round =>
    rintro k N pre x W0 W1 K ⟨⟨A, c, h5, h6⟩, h7, h8⟩ hs' hN hN2 hW01 hx hK
    have HK := Lib.hid hK
    have H6 := Lib.hid h6.out
    have hps : pre.length + 1 ≤ 10000 := by
      have h9 := List.IsPrefix.length_le hx
      simp only [List.length_append, List.length_cons, List.length_nil] at h9; omega
    clear hK hx h6
    have hb1 : Below w.heap.size w W1 := h7.trans (hs'.below (by omega) h7.size)
    have t3 := hs'.row h5
    have hw00 := (Array.getElem?_eq_some_iff.1 h5).1
    have Hpl : Hid ((pre ++ [x]).length = pre.length + 1) := by show _ = _; simp
    clear h5 HQ hr0
    rw [encE_one]
    gi_wp2
    refine HK.out _ _ (belowA (Below.refl _ _) _) (fun W2 hs2 hz2 => ?_)
    clear HK
    have v3 := hs2.row (heapOld (o := .cells #[.int .i64 x.a, .int .i64 x.b, .bool x.n] 71) t3)
    have vb := hs2.row (heapNew (w := W1) (o := .cells #[.int .i64 x.a, .int .i64 x.b, .bool x.n] 71) (g := W1.heap.size) rfl)
    have hb2 : Below w.heap.size w W2 := (belowA hb1 (.cells #[.int .i64 x.a, .int .i64 x.b, .bool x.n] 71)).trans (hs2.below (by omega) (belowA hb1 _).size)
    have x0 : W2.cell? ⟨W1.heap.size, 0, none⟩ = some (.int .i64 x.a) := (cell_of_row _ _ 0 _ _ _ vb).trans rfl
    have x1 : W2.cell? ⟨W1.heap.size, 1, none⟩ = some (.int .i64 x.b) := (cell_of_row _ _ 1 _ _ _ vb).trans rfl
    have x2 : W2.cell? ⟨W1.heap.size, 2, none⟩ = some (.bool x.n) := (cell_of_row _ _ 2 _ _ _ vb).trans rfl
    have c3 : W2.cell? ⟨w.heap.size, 0, none⟩ = some (.slice A pre.length c) := (cell_of_row _ _ 0 _ _ _ v3).trans rfl
    have hzW : W1.heap.size < W2.heap.size := by rw [hz2]; simp
    have H62 := Lib.hid (hs2.own (own_below (hs'.own H6.out) (belowA (Below.refl _ _) (.cells #[.int .i64 x.a, .int .i64 x.b, .bool x.n] 71))))
    have HBl : Hid (∀ b, (Value.slice A pre.length c).ownBlock = some b → N ≤ b ∧ b < W0.heap.size) := fun b hb => own_blk H6.out hb
    obtain ⟨A9, c9, w9, q1, q2, q3, q4⟩ := edge_push H62.out x (by omega) (by omega)
    have r3 := (q4.block _ (by omega)).trans v3
    have y3 : w9.cell? ⟨w.heap.size, 0, none⟩ = some (.slice A pre.length c) := (cell_of_row _ _ 0 _ _ _ r3).trans rfl
    have f3 : w9.frozen? ⟨w.heap.size, 0, none⟩ = false := frozen_of_row _ _ _ _ _ r3
    have HRun := Lib.hid q1
    have Q2 := Lib.hid q2
    have HR3 := Lib.hid r3
    have hb9 : Below w.heap.size w w9 := hb2.trans (q4.mono (by omega))
    have HT : Hid (Turn2 [w.heap.size] N W0.heap.size W2 (w9.setCell ⟨w.heap.size, 0, none⟩ (.slice A9 (pre.length + 1) c9))) :=
      Turn2.of_out (T := w.heap.size :: (Value.slice A pre.length c).ownBlock.toList) ((q3.mono (fun b hb _ => List.mem_cons_of_mem _ hb)).trans (set_out w9 _ 0 _) (fun b hb _ => by simp at hb; simp [hb])) (by omega) (fun b hb _ => by
        rcases List.mem_cons.1 hb with hb | hb
        · exact ⟨.inl (by simp [hb]), by omega⟩
        · have := HBl.out b (by simpa using hb)
          exact ⟨.inr this.1, this.2⟩)
    clear t3 v3 vb q1 q2 q3 r3 H62 H6
    have HZ2 := Lib.hid hz2
    clear hz2
    gi_wp2_with (gi_at_builtin; refine wpListIn_app (o := ⟨some 11, _, _, _, _, _⟩) rfl _ _ _ rfl _ _ rfl rfl (HRun.out _) ?_)
    refine ⟨HT.out, ⟨A9, c9, ?_, ?_⟩, hb9.setCell (Nat.le_refl _) _, h8⟩
    · rw [Hpl.out]; exact set_zero HR3.out
    · show World.ownsRow _ _ _ _ _ _ _
      rw [Hpl.out]
      exact own_out' Q2.out (set_out w9 _ 0 _) (fun b hb hb' => by have := (own_blk Q2.out hb).1; simp at hb'; omega)
  case done =>
    rintro N xs W hxs ⟨⟨A, c, h5, h6⟩, h7, h8⟩ hD
    obtain rfl : xs = l := hxs.out
    have c3 : W.cell? ⟨w.heap.size, 0, none⟩ = some (.slice A xs.length c) := (cell_of_row _ _ 0 _ _ _ h5).trans rfl
    have HDl := (Array.getElem?_eq_some_iff.1 hD).1
    have HHD := Lib.hid hD
    have H6 := Lib.hid h6.out
    clear hxs HQ hr0 h5 h6 hD
    go_wp2_with fail
    refine ⟨by simp, .inl ⟨_, _, rfl, run_takeDeferred HHD.out, ?_⟩⟩
    have hsf : Soft w1.heap.size W (W.putObj w1.heap.size (.deferred none)) := Soft.putObj _ (Nat.le_refl _) HHD.out rfl
    have hpost : P (.returned (.slice A xs.length c)) (W.putObj w1.heap.size (.deferred none)) := by
      rw [HP.out]
      refine ⟨A, c, rfl, ?_, h7.trans (hsf.below (by omega) h7.size)⟩
      have ho := hsf.own H6.out
      refine ⟨ho.1, ?_⟩
      rcases ho.2 with hn | ⟨g, cap, cur, hv, hbg, rest⟩
      · exact .inl hn
      · exact .inr ⟨g, cap, cur, hv, by omega, rest⟩
    exact ⟨.slice A xs.length c, by simp [results, Tryz.results95, go_sem], hpost⟩
  case stop => exact fun _ _ _ _ _ h _ => h.elim
theorem collectE_any {w0 w : World} {A : Option Addr} {m c : Nat} {l : List GEdge} (hl : SliceIs Enc.edge w0 w0.heap.size A m c l) (hb0 : Below w0.heap.size w0 w) {g : Nat} (hg : w.heap[g]? = some (.cells #[.slice A m c] 29 (0, 0))) (hm : m ≤ 10000) :
    Calls Tryz.prog 66 #[.func (.func 68) #[] #[.pointer (some ⟨g, 0, none⟩)]] w (CollEPost l w) := by
  have H := Lib.hid (appendSeqE_any hl hb0 hg hm)
  clear hg hb0 hl hm
  go_enter Tryz.func66, Tryz.ntmps66
  go_wp2_with fail
  refine H.out.mono ?_
  rintro r w1 ⟨A1, c1, rfl, h1, h2⟩
  go_wp2_with fail
  go_ret
  exact ⟨A1, c1, rfl, h1, h2⟩
theorem sortedE_any {w0 w : World} {A : Option Addr} {m c : Nat} {l : List GEdge} (hl : SliceIs Enc.edge w0 w0.heap.size A m c l) (hb0 : Below w0.heap.size w0 w) {g : Nat} (hg : w.heap[g]? = some (.cells #[.slice A m c] 29 (0, 0))) (hm : m ≤ 10000) :
    Calls Tryz.prog 41 #[.func (.func 68) #[] #[.pointer (some ⟨g, 0, none⟩)], .func (.func 43) #[] #[]] w (CollEPost (sortE l) w) := by
  have H := Lib.hid (collectE_any hl hb0 hg hm)
  have hln : l.length ≤ 10000 := by have := hl.1; omega
  obtain ⟨P, HP⟩ : ∃ P : Ending → World → Prop, Hid (P = CollEPost (sortE l) w) := ⟨_, rfl⟩
  rw [← HP.out]
  clear hg hb0 hl hm
  go_enter Tryz.func41, Tryz.ntmps41
  go_wp2_with fail
  refine H.out.mono ?_
  rintro r w1 ⟨A1, c1, rfl, h1, h2⟩
  have HS := Lib.hid (sortE_any w.heap.size A1 l.length c1 l w1 h1 rfl (by omega))
  have HB : Hid (∀ b ∈ blkOf A1, w.heap.size ≤ b) := fun b hb => (own_blk h1 (by rw [← ownBlock_blk A1 l.length c1] at hb; exact Option.mem_toList.1 hb)).1
  have HB1 := Lib.hid h2
  clear h1 h2
  go_wp2_with fail
  refine HS.out.mono ?_
  rintro r w2 ⟨rfl, h3, h4⟩
  have HE : Hid (P (.returned (.slice A1 l.length c1)) w2) := by
    show P _ _
    rw [HP.out]
    have hsl : (sortE l).length = l.length := by unfold sortE; exact List.length_mergeSort _
    exact ⟨A1, c1, by rw [hsl], by rw [hsl]; exact h3, HB1.out.trans (h4.below HB.out HB1.out.size)⟩
  clear h3 h4
  go_wp2_with fail
  first
    | exact HE.out
    | (go_ret; exact HE.out)
end Go.Proofs.YtgphngjniplonaaGreatDoor
