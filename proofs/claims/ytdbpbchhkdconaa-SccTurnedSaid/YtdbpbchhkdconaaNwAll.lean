/- Set behind one another by my own program: NwS, NwC, NwK, NwN, NwT, NwL, NwW. -/
import Derived.Test.YtdbpbchhkdconaaScG
import Derived.Test.YtdbpbchhkdconaaScSk
import Derived.Test.YtdbpbchhkdconaaShelf2
import Derived.Test.YtdbpbchhkdconaaScC
import Derived.Test.YtdbpbchhkdconaaScIx
import Derived.Test.YtdbpbchhkdconaaScPl
import Derived.Test.YtdbpbchhkdconaaScDoc
import Derived.Test.YtdbpbchhkdconaaScR
import Derived.Test.YtdbpbchhkdconaaMa1
import Derived.Test.YtdbpbchhkdconaaScDi
import Derived.Test.YtdbpbchhkdconaaScIs
import Derived.Test.YtdbpbchhkdconaaScLc
/- slices.SortFunc at edges, by their order. -/
namespace Go.Proofs.Ytdbpbchhkdconaa
open Go.RowKit Go.Sort Go.Shelf Go.Lib

theorem grow_drew (w : World) (os : Array Obj) (q : Nat) : (grow (w.drewN q) os).drew = grow (w.drewN (q + 1)) os := rfl
theorem grow_more (w : World) (os : Array Obj) (o : Obj) : (grow w os).alloc o = grow w (os ++ #[o]) := by rw [alloc_eq_grow, grow_grow]
def Grows (w w' : World) : Prop := ∃ q os, w' = grow (w.drewN q) os
theorem Grows.refl (w : World) : Grows w w := ⟨0, #[], by rw [grow_empty]; rfl⟩
theorem Grows.alloc {w w' : World} (h : Grows w w') (o : Obj) : Grows w (w'.alloc o) := by
  obtain ⟨q, os, rfl⟩ := h
  exact ⟨q, _, grow_more _ _ _⟩
theorem Grows.drew {w w' : World} (h : Grows w w') : Grows w w'.drew := by
  obtain ⟨q, os, rfl⟩ := h
  exact ⟨q + 1, os, rfl⟩

set_option maxRecDepth 100000 in
set_option maxHeartbeats 1000000 in
theorem order_grows (x y : GEdge) (w : World) : Calls Try.prog 25 #[x.v, y.v] w (fun e w' => e = .returned (.int .i64 (ordE x y)) ∧ Grows w w') := by
  rw [← ordE_first]
  have hK := Lib.hid (fun p q w => cmpI_any p q w)
  have hI := Lib.hid (fun b w => number_any b w)
  have f1 := cmpN_fits x.a y.a
  have f2 := cmpN_fits x.b y.b
  have f3 := cmpN_fits (numB x.n) (numB y.n)
  have hO := Lib.hid (fun W => or_any (some ⟨W.heap.size, 0, none⟩) 3 3 [cmpN x.a y.a, cmpN x.b y.b, cmpN (numB x.n) (numB y.n)] (W.alloc (.cells #[.int .i64 (cmpN x.a y.a), .int .i64 (cmpN x.b y.b), .int .i64 (cmpN (numB x.n) (numB y.n))] 3)).drew (ints3 (W := W) f1 f2 f3))
  generalize firstNZ [cmpN x.a y.a, cmpN x.b y.b, cmpN (numB x.n) (numB y.n)] = res at hO ⊢
  clear f1 f2 f3
  go_enter Try.func25, Try.ntmps25
  go_wp2_with fail
  have hbw : Grows w ((w.alloc (.cells #[.int .i64 x.a, .int .i64 x.b, .bool x.n] 32)).alloc (.cells #[.int .i64 y.a, .int .i64 y.b, .bool y.n] 32)) := ((Grows.refl w).alloc _).alloc _
  have hg0 : ((w.alloc (.cells #[.int .i64 x.a, .int .i64 x.b, .bool x.n] 32)).alloc (.cells #[.int .i64 y.a, .int .i64 y.b, .bool y.n] 32)).heap[w.heap.size]? = some (.cells #[.int .i64 x.a, .int .i64 x.b, .bool x.n] 32 (0, 0)) := heapOld (heapNew rfl)
  have hg1 : ((w.alloc (.cells #[.int .i64 x.a, .int .i64 x.b, .bool x.n] 32)).alloc (.cells #[.int .i64 y.a, .int .i64 y.b, .bool y.n] 32)).heap[w.heap.size + 1]? = some (.cells #[.int .i64 y.a, .int .i64 y.b, .bool y.n] 32 (0, 0)) := heapNew (by simp)
  generalize (w.alloc (.cells #[.int .i64 x.a, .int .i64 x.b, .bool x.n] 32)).alloc (.cells #[.int .i64 y.a, .int .i64 y.b, .bool y.n] 32) = wb at hbw hg0 hg1 ⊢
  have hl0 := (Array.getElem?_eq_some_iff.1 hg0).1
  have hl1 := (Array.getElem?_eq_some_iff.1 hg1).1
  have Hk := Lib.hid (fun W (h : Below wb.heap.size wb W) => show W.cell? ⟨w.heap.size, 0, none⟩ = some (.int .i64 x.a) ∧ W.cell? ⟨w.heap.size, 1, none⟩ = some (.int .i64 x.b) ∧ W.cell? ⟨w.heap.size, 2, none⟩ = some (.bool x.n) ∧ W.cell? ⟨w.heap.size + 1, 0, none⟩ = some (.int .i64 y.a) ∧ W.cell? ⟨w.heap.size + 1, 1, none⟩ = some (.int .i64 y.b) ∧ W.cell? ⟨w.heap.size + 1, 2, none⟩ = some (.bool y.n) from
    ⟨(cell_of_row _ _ 0 _ _ _ ((h.block _ hl0).trans hg0)).trans rfl, (cell_of_row _ _ 1 _ _ _ ((h.block _ hl0).trans hg0)).trans rfl, (cell_of_row _ _ 2 _ _ _ ((h.block _ hl0).trans hg0)).trans rfl, (cell_of_row _ _ 0 _ _ _ ((h.block _ hl1).trans hg1)).trans rfl, (cell_of_row _ _ 1 _ _ _ ((h.block _ hl1).trans hg1)).trans rfl, (cell_of_row _ _ 2 _ _ _ ((h.block _ hl1).trans hg1)).trans rfl⟩)
  clear hg0 hg1 hl0 hl1
  go_region_held3 (fun w' => w'.cell? ⟨w.heap.size, 0, none⟩ = some (.int .i64 x.a) ∧ w'.cell? ⟨w.heap.size, 1, none⟩ = some (.int .i64 x.b) ∧ w'.cell? ⟨w.heap.size, 2, none⟩ = some (.bool x.n) ∧ w'.cell? ⟨w.heap.size + 1, 0, none⟩ = some (.int .i64 y.a) ∧ w'.cell? ⟨w.heap.size + 1, 1, none⟩ = some (.int .i64 y.b) ∧ w'.cell? ⟨w.heap.size + 1, 2, none⟩ = some (.bool y.n))
    (first
      | (refine Hk.out _ ?_; (repeat (first | with_reducible exact Below.refl _ _ | with_reducible assumption | with_reducible refine Below.drew ?_ | with_reducible refine belowA ?_ _)))
      | go_keep)
    ((first
      | (go_at_call 42
         refine (hK.out _ _ _).mono ?_
         rintro e w1 ⟨rfl, rfl⟩)
      | (go_at_call 43
         refine (hI.out _ _).mono ?_
         rintro e w1 ⟨rfl, rfl⟩)
      | (go_at_call 41
         refine (hO.out _).mono ?_
         rintro e w1 ⟨rfl, rfl⟩)))
  all_goals
    go_wp2_with fail
    go_ret
    refine ⟨by simp, ?_⟩
    repeat (first | with_reducible assumption | with_reducible refine Grows.drew ?_ | with_reducible refine Grows.alloc ?_ _)

theorem own_sortedK {w : World} {B e b n c k s : Nat} {xs : List Value} {d : Array Value} {os : Array Obj} (h : w.ownsRow B e s (.slice (some ⟨b, 0, none⟩) n c) n xs) (hd : d.size = n * s) :
    (grow (putRow id (Sort.ahead w k) b 0 d) os).ownsRow B e s (.slice (some ⟨b, 0, none⟩) n c) n d.toList ∧ Out [b] w (grow (putRow id (Sort.ahead w k) b 0 d) os) := by
  obtain ⟨h1, h2⟩ := h
  rcases h2 with ⟨hv, -⟩ | ⟨g, cap, cur, hv, hg, hh, hnc, hcm, hs, ht⟩
  · cases hv
  simp only [Value.slice.injEq, Option.some.injEq, Addr.mk.injEq, and_true, true_and] at hv
  obtain ⟨rfl, rfl⟩ := hv
  have hbl : b < w.heap.size := (Array.getElem?_eq_some_iff.1 hh).1
  have hns : n * s ≤ cur.size := by rw [hs]; exact Nat.mul_le_mul_right _ hnc
  have hget : (grow (putRow id (Sort.ahead w k) b 0 d) os).heap[b]? = some (.cells (putCells id 0 d cur) e (0, 0)) := by
    rw [heap_grow_old _ _ (by simpa using hbl)]
    show (w.heap.modify b (onCells (putCells id 0 d)))[b]? = _
    rw [Array.getElem?_modify, if_pos rfl, hh]
    rfl
  refine ⟨⟨by simp [hd], .inr ⟨b, c, _, rfl, hg, hget, hnc, hcm, by simp [putCells, hs], ?_⟩⟩, ⟨rfl, rfl, rfl, by simp, fun x hx hxb => ?_⟩⟩
  · apply List.ext_getElem?
    intro i
    rw [List.getElem?_take]
    by_cases hi : i < n * s
    · rw [if_pos hi, Array.getElem?_toList]
      have hic : i < cur.size := by omega
      simp only [putCells, Array.getElem?_mapIdx, Array.getElem?_eq_getElem hic, Option.map_some, Array.getElem?_toList]
      rw [if_pos ⟨Nat.zero_le _, by omega⟩, Nat.sub_zero, getElem!_pos d i (by omega), Array.getElem?_eq_getElem (by omega)]
      rfl
    · rw [if_neg hi, List.getElem?_eq_none (by simp; omega)]
  · rw [heap_grow_old _ _ (by simpa using hx)]
    show (w.heap.modify b (onCells (putCells id 0 d)))[x]? = _
    rw [Array.getElem?_modify, if_neg (fun e => hxb (by simp [← e]))]
theorem own_holdsK {w : World} {B e b n c s : Nat} {xs : List Value} {d : Array Value} (h : w.ownsRow B e s (.slice (some ⟨b, 0, none⟩) n c) n xs) (hd : d.toList = xs) : Holds id w b 0 d := by
  obtain ⟨h1, h2⟩ := h
  rcases h2 with ⟨hv, -⟩ | ⟨g, cap, cur, hv, hg, hh, hnc, hcm, hs, ht⟩
  · cases hv
  simp only [Value.slice.injEq, Option.some.injEq, Addr.mk.injEq, and_true, true_and] at hv
  obtain ⟨rfl, rfl⟩ := hv
  intro j hj
  refine ⟨?_, frozen_of_row _ _ _ _ _ hh⟩
  rw [cell_of_row _ _ _ _ _ _ hh, Nat.zero_add, getElem!_pos d j hj]
  have hn : n * s = d.size := by rw [← hd] at h1; simpa using h1.symm
  have e1 : (cur.toList.take (n * s))[j]? = some d[j] := by
    rw [ht, ← hd, Array.getElem?_toList, Array.getElem?_eq_getElem hj]
  rw [List.getElem?_take, if_pos (by omega), Array.getElem?_toList] at e1
  exact e1

/-- edges in order -/
def sortE (L : List GEdge) : List GEdge := L.mergeSort fun x y => !lessE y x
theorem lessE_irr (x : GEdge) : lessE x x = false := by unfold lessE; simp
theorem lessE_trans {x y z : GEdge} (h1 : lessE x y = true) (h2 : lessE y z = true) : lessE x z = true := by
  unfold lessE at *
  by_cases a1 : x.a = y.a
  · by_cases a2 : y.a = z.a
    · rw [if_pos a1] at h1; rw [if_pos a2] at h2; rw [if_pos (a1.trans a2)]
      by_cases b1 : x.b = y.b
      · by_cases b2 : y.b = z.b
        · rw [if_pos b1] at h1; rw [if_pos b2] at h2; rw [if_pos (b1.trans b2)]
          cases hx : x.n <;> cases hy : y.n <;> cases hz : z.n <;> simp_all
        · rw [if_neg b2] at h2; rw [if_neg (by rw [b1]; exact b2), b1]; exact h2
      · by_cases b2 : y.b = z.b
        · rw [if_neg b1] at h1; rw [← b2, if_neg b1]; exact h1
        · rw [if_neg b1] at h1; rw [if_neg b2] at h2
          simp only [decide_eq_true_eq] at h1 h2
          rw [if_neg (by omega)]; simp; omega
    · rw [if_neg a2] at h2; rw [if_neg (by rw [a1]; exact a2), a1]; exact h2
  · by_cases a2 : y.a = z.a
    · rw [if_neg a1] at h1; rw [← a2, if_neg a1]; exact h1
    · rw [if_neg a1] at h1; rw [if_neg a2] at h2
      simp only [decide_eq_true_eq] at h1 h2
      rw [if_neg (by omega)]; simp; omega
theorem lessE_total {x y : GEdge} (h1 : lessE x y = false) (h2 : lessE y x = false) : x = y := by
  obtain ⟨xa, xb, xn⟩ := x
  obtain ⟨ya, yb, yn⟩ := y
  unfold lessE at h1 h2
  simp only at h1 h2
  by_cases ha : xa = ya
  · rw [if_pos ha] at h1; rw [if_pos ha.symm] at h2
    by_cases hb : xb = yb
    · rw [if_pos hb] at h1; rw [if_pos hb.symm] at h2
      subst ha hb
      cases xn <;> cases yn <;> simp_all
    · rw [if_neg hb] at h1; rw [if_neg (Ne.symm hb)] at h2
      simp at h1 h2; omega
  · rw [if_neg ha] at h1; rw [if_neg (Ne.symm ha)] at h2
    simp at h1 h2; omega
theorem lt_ordE (x y : GEdge) : ltOf ordE x y = lessE x y := by
  unfold ltOf ordE
  cases h1 : lessE x y with
  | true => rfl
  | false => cases h2 : lessE y x <;> rfl
theorem swo_ordE : SWO (ltOf ordE) where
  irrefl x := by rw [lt_ordE, lessE_irr]
  trans x y z h1 h2 := by rw [lt_ordE] at *; exact lessE_trans h1 h2
  ntrans x y z h1 h2 := by
    rw [lt_ordE] at *
    cases hz : lessE x z with
    | false => rfl
    | true =>
      exfalso
      -- not x < y, not y < z
      cases hyx : lessE y x with
      | true => rw [lessE_trans hyx hz] at h2; cases h2
      | false =>
        obtain rfl := lessE_total h1 hyx
        rw [hz] at h2; cases h2
instance : Inhabited GEdge := ⟨⟨0, 0, false⟩⟩
theorem flatK_list (l : List GEdge) : (flatK GEdge.cells 3 l.toArray).toList = l.flatMap GEdge.cells := by
  apply List.ext_getElem?
  intro t
  by_cases ht : t < l.length * 3
  · have hq : t / 3 < l.length := by omega
    have hp := flat_piece (sz := 3) GEdge.cells (fun _ => rfl) l (t / 3) _ (List.getElem?_eq_getElem hq)
    have h1 : (l.flatMap GEdge.cells)[t]? = (l[t / 3]).cells[t % 3]? := by
      have h2 : ((l.flatMap GEdge.cells).drop (t / 3 * 3)).take 3 = (l[t / 3]).cells := hp
      rw [← h2, List.getElem?_take, if_pos (Nat.mod_lt _ (by omega)), List.getElem?_drop]
      congr 1; omega
    have h3 : t < (flatK GEdge.cells 3 l.toArray).size := by simpa using ht
    rw [h1, Array.getElem?_toList, Array.getElem?_eq_getElem h3, ← getElem!_pos _ t h3, get_flatK _ _ _ _ (by simpa using ht)]
    have h4 : (l.toArray)[t / 3]! = l[t / 3] := by rw [getElem!_pos _ _ (by simpa using hq)]; simp
    rw [h4]
    have h5 : t % 3 < (l[t / 3]).cells.length := Nat.mod_lt _ (by omega)
    rw [List.getElem?_eq_getElem h5, getElem!_pos (l[t / 3]).cells (t % 3) h5]
  · have hl : (l.flatMap GEdge.cells).length = l.length * 3 := flat_len (sz := 3) GEdge.cells (fun _ => rfl) l
    rw [List.getElem?_eq_none (by simp; omega), List.getElem?_eq_none (by omega)]

def SortEPost (B : Nat) (A : Option Addr) (n c : Nat) (L : List GEdge) (w : World) (e : Ending) (w' : World) : Prop :=
  e = .returned (.tuple #[]) ∧ w'.ownsRow B 32 3 (.slice A n c) n ((sortE L).flatMap GEdge.cells) ∧ Out (blkOf A) w w'
set_option maxRecDepth 100000 in
theorem sortE_any (B : Nat) (A : Option Addr) (n c : Nat) (L : List GEdge) (w : World) (h : w.ownsRow B 32 3 (.slice A n c) n (L.flatMap GEdge.cells)) (hl : L.length = n) (hn : n ≤ 1000000) :
    Calls Try.prog 67 #[.slice A n c, .func (.func 25) #[] #[]] w (SortEPost B A n c L w) := by
  rcases Nat.eq_zero_or_pos n with hz | hpos
  · subst hz
    refine (@Try.slices_SortFunc_none_f67 Nat _ A c _ w).mono ?_
    rintro e w' ⟨rfl, rfl⟩
    obtain rfl : L = [] := List.eq_nil_of_length_eq_zero hl
    exact ⟨rfl, by simpa [sortE] using h, Out.refl _ _⟩
  obtain ⟨b, rfl⟩ : ∃ b, A = some ⟨b, 0, none⟩ := by
    rcases h.2 with ⟨hv, h1⟩ | ⟨g, cap, cur, hv, r⟩
    · omega
    · simp only [Value.slice.injEq] at hv
      exact ⟨g, hv.1⟩
  have hbl : b < w.heap.size := (own_blk h rfl).2
  have eg : ∀ args w, (callFunc 25 args).run Try.prog w = .ok (.enter 25 args) w := enters_of Try.func25 (by kernel_rfl) rfl
  have hcmp : CmpLays Try.prog 25 #[] GEdge.cells 3 ordE b 0 L.toArray.size w := fun m os dk _ x y => order_grows x y _
  have hH : HoldsK GEdge.cells 3 w b 0 L.toArray := own_holdsK h (flatK_list L)
  have hds : L.toArray.size = n := by simpa using hl
  have hS := Try.slices_SortFunc_total_f67 3 Try.isAgg32 Try.sizeOf32 GEdge.cells (fun _ => rfl) (fun x v hv => by simp [GEdge.cells] at hv; rcases hv with rfl | rfl | rfl <;> rfl) ordE swo_ordE 25 #[] b 0 c L.toArray w eg hcmp hH hbl (by rw [hds]; omega) (fun x y h1 h2 => by rw [lt_ordE] at h1 h2; exact lessE_total h1 h2)
  rw [hds] at hS
  refine hS.mono ?_
  rintro e w' ⟨rfl, k, os, rfl⟩
  have e1 : (fun x y => !ltOf ordE y x) = fun x y : GEdge => !lessE y x := by funext x y; rw [lt_ordE]
  rw [e1, List.toList_toArray]
  have hsl : (sortE L).length = n := by unfold sortE; rw [List.length_mergeSort]; exact hl
  have h2 := own_sortedK (d := flatK GEdge.cells 3 (sortE L).toArray) (k := k) (os := os) h (by rw [size_flatK]; simp [hsl])
  rw [flatK_list] at h2
  exact ⟨rfl, h2.1, h2.2⟩
end Go.Proofs.Ytdbpbchhkdconaa

/- slices.Values, AppendSeq, Collect, SortedFunc at edges. -/
namespace Go.Proofs.Ytdbpbchhkdconaa
open Go.RowKit Go.Shelf
attribute [local go_sem] Oper.semAt_some

def encE (x : GEdge) : Array Value := #[x.v]
theorem encE_one (x : GEdge) : encE x = #[.agg #[.int .i64 x.a, .int .i64 x.b, .bool x.n]] := rfl
def RE (L : List GEdge) (pre : List GEdge) (x : GEdge) (_base : Nat) (_W : World) : Prop := (pre ++ [x]) <+: L

set_option maxRecDepth 100000 in
theorem values_any (A : Option Addr) (n c : Nat) (w : World) : Calls Try.prog 52 #[.slice A n c] w (fun e w' => e = .returned (.func (.func 68) #[] #[.pointer (some ⟨w.heap.size, 0, none⟩)]) ∧ w' = w.alloc (.cells #[.slice A n c] 22)) := by
  go_enter Try.func52, Try.ntmps52
  go_wp2_with fail
  go_ret
  exact ⟨by simp, rfl⟩

set_option maxRecDepth 100000 in
set_option maxHeartbeats 4000000 in
theorem values_seq {w0 w : World} {A : Option Addr} {m c : Nat} {l : List GEdge} (hl : SliceIs Enc.edge w0 w0.heap.size A m c l) (hb0 : Below w0.heap.size w0 w) {g : Nat} (hg : w.heap[g]? = some (.cells #[.slice A m c] 22 (0, 0)))
    (S : List Nat) (hS : ∀ b ∈ S, w0.heap.size ≤ b) :
    SeqR2 Try.prog 68 #[.pointer (some ⟨g, 0, none⟩)] encE (RE l) S (fun xs => Hid (xs = l)) (fun pre => Hid (pre <+: l)) w := by
  intro lp J Jx W hbW hlp hlW hJ h0 hY
  have HJ := Lib.hid hJ
  have H0 := Lib.hid h0
  have HY := Lib.hid hY
  have gl : g < w.heap.size := (Array.getElem?_eq_some_iff.1 hg).1
  have hsW := hbW.size
  have hs0 := hb0.size
  have hglW : g < W.heap.size := by omega
  have hneq : g ≠ lp := by omega
  have HK : Hid (∀ V : World, (∀ b, b < W.heap.size → b ≠ lp → b ∉ S → V.heap[b]? = W.heap[b]?) → W.heap.size ≤ V.heap.size → SliceIs Enc.edge V V.heap.size A m c l) := by
    intro V hV hz
    have hk : ∀ b, b < w0.heap.size → V.heap[b]? = w0.heap[b]? := fun b hb => (hV b (by omega) (by omega) (fun hbS => by have := hS b hbS; omega)).trans ((hbW.block b (by omega)).trans (hb0.block b hb))
    exact hl.mono (by omega) hk
  have hgW := (hbW.block g gl).trans hg
  have Hm : Hid (l.length = m) := hl.1
  have hbm := hl.bound
  have c0 : W.cell? ⟨g, 0, none⟩ = some (.slice A m c) := (cell_of_row _ _ 0 _ _ _ hgW).trans rfl
  have HJ0 : Hid (J W.heap.size [] W) := H0.out _ W (Below.refl _ _) (Nat.le_refl _) (Nat.le_refl _)
  clear hl hg hJ h0 hY hgW H0
  refine (callsIn_wide (n := 0)).1 ?_
  refine callsIn_of_wp Try.func68 rfl trivial ?_ rfl
  simp only [Try.ntmps68, List.size_toArray, List.length_cons, List.length_nil, Nat.reduceAdd, Nat.reduceSub, Array.replicate_succ, Array.replicate_zero, List.push_toArray, List.append_toArray, List.nil_append, List.cons_append]
  gi_wp2_with fail
  clear c0
  gi_loopw [4, 7] (fun _ i wr => ∃ (k : Nat), k ≤ m ∧ i = .int .i64 (k : Int) ∧ Hid (J W.heap.size (l.take k) wr) ∧ Hid (∀ b, b < W.heap.size → b ≠ lp → b ∉ S → wr.heap[b]? = W.heap[b]?) ∧ W.heap.size ≤ wr.heap.size) (fun _ i _ => m - (intOf i).toNat)
  case atStart => exact ⟨0, by omega, rfl, HJ0, (fun _ _ _ _ => rfl), Nat.le_refl _⟩
  case round =>
    obtain ⟨k, hk, rfl, HJk, HBk, hNk⟩ := hrel
    have i0 : (0 : Int) ≤ (k : Int) := by omega
    by_cases hlt : k < m
    · have i1 : (k : Int) < (m : Int) := by omega
      obtain ⟨b, o, x, rfl, hbl, hx, x0, x1, x2, -⟩ := (HK.out wr HBk.out hNk).edge_at hlt
      have e : l.take (k + 1) = l.take k ++ [x] := by rw [List.take_add_one, hx.out]; rfl
      have HP : Hid ((l.take k ++ [x]) <+: l) := by show _ <+: _; rw [← e]; exact List.take_prefix _ _
      have He := Lib.hid e
      have hba : Below wr.heap.size wr (wr.alloc (.cells #[.int .i64 x.a, .int .i64 x.b, .bool x.n] 32)) := belowA (Below.refl _ _) _
      have e0 : (wr.alloc (.cells #[.int .i64 x.a, .int .i64 x.b, .bool x.n] 32)).cell? ⟨wr.heap.size, 0, none⟩ = some (.int .i64 x.a) := (cell_of_row _ _ 0 _ _ _ (heapNew (w := wr) rfl)).trans rfl
      have e1 : (wr.alloc (.cells #[.int .i64 x.a, .int .i64 x.b, .bool x.n] 32)).cell? ⟨wr.heap.size, 1, none⟩ = some (.int .i64 x.b) := (cell_of_row _ _ 1 _ _ _ (heapNew (w := wr) rfl)).trans rfl
      have e2 : (wr.alloc (.cells #[.int .i64 x.a, .int .i64 x.b, .bool x.n] 32)).cell? ⟨wr.heap.size, 2, none⟩ = some (.bool x.n) := (cell_of_row _ _ 2 _ _ _ (heapNew (w := wr) rfl)).trans rfl
      have HYs := Lib.hid (fun mm => HY.out mm W.heap.size (l.take k) x wr _ HJk.out hba HP.out)
      have Hba := Lib.hid hba
      obtain ⟨fn, tmps, assign, body, hy, hR⟩ := HYs.out 0
      have HRR := Lib.hid hR
      rw [encE_one] at hy
      clear hR HYs hx e hba
      gi_wp2_with fail
      refine ⟨rfl, HRR.out.mono ?_⟩
      rintro e w4 (⟨rfl, hj, hz4, hbl4, hfr⟩ | ⟨rfl, hj⟩)
      · have HJ4 : Hid (J W.heap.size (l.take (k + 1)) w4) := by
          show J _ _ _
          rw [He.out]; exact hj
        have HB4 : Hid (∀ b, b < W.heap.size → b ≠ lp → b ∉ S → w4.heap[b]? = W.heap[b]?) := fun b hb hbl' hbS => (hbl4 b hb hbS hbl').trans ((Hba.out.block b (by omega)).trans (HBk.out b hb hbl' hbS))
        have hz5 : W.heap.size ≤ w4.heap.size := by have := Hba.out.size; omega
        clear hj hbl4 hfr hy HRR Hba HBk HJk
        gi_wp2_with fail
        go_roundw
        case rel => exact ⟨k + 1, by omega, by go_num, HJ4, HB4, hz5⟩
        case measure => simp [intOf]; omega
      · have HJ4 := Lib.hid hj
        clear hj hy HRR Hba HBk HJk
        gi_wp2_with fail
        first
          | exact ⟨⟨_, rfl⟩, .inr ⟨W.heap.size, _, HP, HJ4.out⟩⟩
          | (refine bodyPost_ret (results_none rfl _ _ _) rfl ?_; exact ⟨⟨_, rfl⟩, .inr ⟨W.heap.size, _, HP, HJ4.out⟩⟩)
    · have i1 : ¬ (k : Int) < (m : Int) := by omega
      have HE : Hid (l.take k = l) := List.take_of_length_le (by rw [Hm.out]; omega)
      gi_wp2_with fail
      go_end0
      exact ⟨⟨_, rfl⟩, .inl ⟨W.heap.size, _, HE, HJk.out⟩⟩

theorem edge_push {W : World} {base : Nat} {A : Option Addr} {c k : Nat} {xs : List GEdge} (hown : W.ownsRow base 32 3 (.slice A k c) k (xs.flatMap GEdge.cells)) (q : GEdge) (hn : k + 1 ≤ 1000000) (hb : base ≤ W.heap.size) :
    ∃ A' c' w', (∀ ty, (Builtin.append_ #[22, 22] ty #[.slice A k c, .slice (some ⟨W.heap.size, 0, none⟩) 1 1]).run Try.prog (W.alloc (.cells #[.int .i64 q.a, .int .i64 q.b, .bool q.n] 32)) = .ok (.slice A' (k + 1) c') w') ∧
      w'.ownsRow base 32 3 (.slice A' (k + 1) c') (k + 1) ((xs ++ [q]).flatMap GEdge.cells) ∧ Out (Value.slice A k c).ownBlock.toList W w' ∧ Below base W w' := by
  have ho : (W.alloc (.cells #[.int .i64 q.a, .int .i64 q.b, .bool q.n] 32)).ownsRow base 32 3 (.slice A k c) k (xs.flatMap GEdge.cells) := own_below hown (belowA (Below.refl _ _) _)
  obtain ⟨v', w', h1, h2, h3, h4⟩ := run_push_at (P := Try.prog) (ty := 22) (W.alloc (.cells #[.int .i64 q.a, .int .i64 q.b, .bool q.n] 32)) (base := base) Try.underlying22 info_edge rfl (by decide) ho W.heap.size (GEdge.cells q) rfl (heapNew rfl) (edge_one q)
    (by simp [maxLen]; omega) (by omega) (by simp; omega)
  obtain ⟨A', c', rfl⟩ := own_form h2
  refine ⟨A', c', w', fun _ => h1, ?_, ?_, ?_⟩
  · rw [List.flatMap_append]; simpa using h2
  · have h5 := (Out.of_below (belowA (Below.refl W.heap.size W) (.cells #[.int .i64 q.a, .int .i64 q.b, .bool q.n] 32)) (Value.slice A k c).ownBlock.toList)
    exact h5.trans (grown_out h3) (fun b hb _ => hb)
  · exact ((Below.refl base W).alloc hb _).trans h4
def CollEPost (L : List GEdge) (w : World) (r : Ending) (w' : World) : Prop :=
  ∃ A c, r = .returned (.slice A L.length c) ∧ w'.ownsRow w.heap.size 32 3 (.slice A L.length c) L.length (L.flatMap GEdge.cells) ∧ Below w.heap.size w w'

set_option maxRecDepth 100000 in
set_option maxHeartbeats 4000000 in
theorem appendSeqE_any {w0 w : World} {A : Option Addr} {m c : Nat} {l : List GEdge} (hl : SliceIs Enc.edge w0 w0.heap.size A m c l) (hb0 : Below w0.heap.size w0 w) {g : Nat} (hg : w.heap[g]? = some (.cells #[.slice A m c] 22 (0, 0))) (hm : m ≤ 10000) :
    Calls Try.prog 79 #[.slice none 0 0, .func (.func 68) #[] #[.pointer (some ⟨g, 0, none⟩)]] w (CollEPost l w) := by
  have hgl := (Array.getElem?_eq_some_iff.1 hg).1
  have HQ := Lib.hid (values_seq hl hb0 hg [w.heap.size] (fun b hb => by have := hb0.size; simp at hb; omega))
  have hlen : l.length ≤ 10000 := by have := hl.1; omega
  obtain ⟨P, HP⟩ : ∃ P : Ending → World → Prop, Hid (P = CollEPost l w) := ⟨_, rfl⟩
  rw [← HP.out]
  clear hg hb0 hl hgl
  refine (callsIn_wide (n := 8)).1 ?_
  refine callsIn_of_wp_marks Try.func79 rfl trivial ?_ rfl
  simp only [Try.ntmps79, List.size_toArray, List.length_cons, List.length_nil, Nat.reduceAdd, Nat.reduceSub, Array.replicate_succ, Array.replicate_zero, List.push_toArray, List.append_toArray, List.nil_append, List.cons_append]
  refine wpIn_wide.2 ?_
  go_wp2_with fail
  have hr0 : (w.alloc (.cells #[.slice none 0 0] 22)).heap[w.heap.size]? = some (.cells #[.slice none 0 0] 22 (0, 0)) := heapNew rfl
  have hbw : Below w.heap.size w (w.alloc (.cells #[.slice none 0 0] 22)) := belowA (Below.refl _ _) _
  have hz1 : (w.alloc (.cells #[.slice none 0 0] 22)).heap.size = w.heap.size + 1 := by simp
  generalize w.alloc (.cells #[.slice none 0 0] 22) = w1 at *
  refine (wpIn_wide (n := 8)).1 (range_law2 (hg := rfl) (eg := enters_of Try.func68 (by kernel_rfl) rfl) (hseq := HQ.out) (hb0 := hbw) ?hS (hps := fun _ => rfl)
    (I := fun N pre W => (∃ A c, W.heap[w.heap.size]? = some (.cells #[.slice A pre.length c] 22 (0, 0)) ∧ Hid (W.ownsRow N 32 3 (.slice A pre.length c) pre.length (pre.flatMap GEdge.cells))) ∧ Below w.heap.size w W ∧ w1.heap.size ≤ N)
    (Ix := fun _ _ _ _ => False)
    ?hI ?hIx ?h0 ?round ?done ?stop)
  case hS => intro b hb; simp at hb; omega
  case hI =>
    rintro N pre W W' ⟨⟨A, c, h5, h6⟩, h7, h8⟩ hs'
    exact ⟨⟨A, c, hs'.row h5, hs'.own h6.out⟩, h7.trans (hs'.below (by omega) h7.size), h8⟩
  case hIx => exact fun _ _ _ _ _ h _ => h
  case h0 =>
    intro N W hs' hN0 _
    exact ⟨⟨none, 0, hs'.row hr0, World.ownsRow_nil _ _ _ _⟩, hbw.trans (hs'.below (by omega) hbw.size), by omega⟩
  case round =>
    rintro k N pre x W0 W1 K ⟨⟨A, c, h5, h6⟩, h7, h8⟩ hs' hN hN2 hW01 hx hK
    have HK := Lib.hid hK
    have H6 := Lib.hid h6.out
    have hps : pre.length + 1 ≤ 10000 := by
      have h9 := List.IsPrefix.length_le hx
      simp only [List.length_append, List.length_cons, List.length_nil] at h9; omega
    clear hK hx h6
    have hb1 : Below w.heap.size w W1 := h7.trans (hs'.below (by omega) h7.size)
    have t3 := hs'.row h5
    have hw00 := (Array.getElem?_eq_some_iff.1 h5).1
    have Hpl : Hid ((pre ++ [x]).length = pre.length + 1) := by show _ = _; simp
    clear h5 HQ hr0
    rw [encE_one]
    gi_wp2
    refine HK.out _ _ (belowA (Below.refl _ _) _) (fun W2 hs2 hz2 => ?_)
    clear HK
    have v3 := hs2.row (heapOld (o := .cells #[.int .i64 x.a, .int .i64 x.b, .bool x.n] 32) t3)
    have vb := hs2.row (heapNew (w := W1) (o := .cells #[.int .i64 x.a, .int .i64 x.b, .bool x.n] 32) (g := W1.heap.size) rfl)
    have hb2 : Below w.heap.size w W2 := (belowA hb1 (.cells #[.int .i64 x.a, .int .i64 x.b, .bool x.n] 32)).trans (hs2.below (by omega) (belowA hb1 _).size)
    have x0 : W2.cell? ⟨W1.heap.size, 0, none⟩ = some (.int .i64 x.a) := (cell_of_row _ _ 0 _ _ _ vb).trans rfl
    have x1 : W2.cell? ⟨W1.heap.size, 1, none⟩ = some (.int .i64 x.b) := (cell_of_row _ _ 1 _ _ _ vb).trans rfl
    have x2 : W2.cell? ⟨W1.heap.size, 2, none⟩ = some (.bool x.n) := (cell_of_row _ _ 2 _ _ _ vb).trans rfl
    have c3 : W2.cell? ⟨w.heap.size, 0, none⟩ = some (.slice A pre.length c) := (cell_of_row _ _ 0 _ _ _ v3).trans rfl
    have hzW : W1.heap.size < W2.heap.size := by rw [hz2]; simp
    have H62 := Lib.hid (hs2.own (own_below (hs'.own H6.out) (belowA (Below.refl _ _) (.cells #[.int .i64 x.a, .int .i64 x.b, .bool x.n] 32))))
    have HBl : Hid (∀ b, (Value.slice A pre.length c).ownBlock = some b → N ≤ b ∧ b < W0.heap.size) := fun b hb => own_blk H6.out hb
    obtain ⟨A9, c9, w9, q1, q2, q3, q4⟩ := edge_push H62.out x (by omega) (by omega)
    have r3 := (q4.block _ (by omega)).trans v3
    have y3 : w9.cell? ⟨w.heap.size, 0, none⟩ = some (.slice A pre.length c) := (cell_of_row _ _ 0 _ _ _ r3).trans rfl
    have f3 : w9.frozen? ⟨w.heap.size, 0, none⟩ = false := frozen_of_row _ _ _ _ _ r3
    have HRun := Lib.hid q1
    have Q2 := Lib.hid q2
    have HR3 := Lib.hid r3
    have hb9 : Below w.heap.size w w9 := hb2.trans (q4.mono (by omega))
    have HT : Hid (Turn2 [w.heap.size] N W0.heap.size W2 (w9.setCell ⟨w.heap.size, 0, none⟩ (.slice A9 (pre.length + 1) c9))) :=
      Turn2.of_out (T := w.heap.size :: (Value.slice A pre.length c).ownBlock.toList) ((q3.mono (fun b hb _ => List.mem_cons_of_mem _ hb)).trans (set_out w9 _ 0 _) (fun b hb _ => by simp at hb; simp [hb])) (by omega) (fun b hb _ => by
        rcases List.mem_cons.1 hb with hb | hb
        · exact ⟨.inl (by simp [hb]), by omega⟩
        · have := HBl.out b (by simpa using hb)
          exact ⟨.inr this.1, this.2⟩)
    clear t3 v3 vb q1 q2 q3 r3 H62 H6
    have HZ2 := Lib.hid hz2
    clear hz2
    gi_wp2_with (gi_at_builtin; refine wpListIn_app (o := ⟨some 11, _, _, _, _, _⟩) rfl _ _ _ rfl _ _ rfl rfl (HRun.out _) ?_)
    refine ⟨HT.out, ⟨A9, c9, ?_, ?_⟩, hb9.setCell (Nat.le_refl _) _, h8⟩
    · rw [Hpl.out]; exact set_zero HR3.out
    · show World.ownsRow _ _ _ _ _ _ _
      rw [Hpl.out]
      exact own_out' Q2.out (set_out w9 _ 0 _) (fun b hb hb' => by have := (own_blk Q2.out hb).1; simp at hb'; omega)
  case done =>
    rintro N xs W hxs ⟨⟨A, c, h5, h6⟩, h7, h8⟩ hD
    obtain rfl : xs = l := hxs.out
    have c3 : W.cell? ⟨w.heap.size, 0, none⟩ = some (.slice A xs.length c) := (cell_of_row _ _ 0 _ _ _ h5).trans rfl
    have HDl := (Array.getElem?_eq_some_iff.1 hD).1
    have HHD := Lib.hid hD
    have H6 := Lib.hid h6.out
    clear hxs HQ hr0 h5 h6 hD
    go_wp2_with fail
    refine ⟨by simp, .inl ⟨_, _, rfl, run_takeDeferred HHD.out, ?_⟩⟩
    have hsf : Soft w1.heap.size W (W.putObj w1.heap.size (.deferred none)) := Soft.putObj _ (Nat.le_refl _) HHD.out rfl
    have hpost : P (.returned (.slice A xs.length c)) (W.putObj w1.heap.size (.deferred none)) := by
      rw [HP.out]
      refine ⟨A, c, rfl, ?_, h7.trans (hsf.below (by omega) h7.size)⟩
      have ho := hsf.own H6.out
      refine ⟨ho.1, ?_⟩
      rcases ho.2 with hn | ⟨g, cap, cur, hv, hbg, rest⟩
      · exact .inl hn
      · exact .inr ⟨g, cap, cur, hv, by omega, rest⟩
    exact ⟨.slice A xs.length c, by simp [results, Try.results79, go_sem], hpost⟩
  case stop => exact fun _ _ _ _ _ h _ => h.elim

set_option maxRecDepth 100000 in
set_option maxHeartbeats 1000000 in
theorem collectE_any {w0 w : World} {A : Option Addr} {m c : Nat} {l : List GEdge} (hl : SliceIs Enc.edge w0 w0.heap.size A m c l) (hb0 : Below w0.heap.size w0 w) {g : Nat} (hg : w.heap[g]? = some (.cells #[.slice A m c] 22 (0, 0))) (hm : m ≤ 10000) :
    Calls Try.prog 66 #[.func (.func 68) #[] #[.pointer (some ⟨g, 0, none⟩)]] w (CollEPost l w) := by
  have H := Lib.hid (appendSeqE_any hl hb0 hg hm)
  clear hg hb0 hl hm
  go_enter Try.func66, Try.ntmps66
  go_wp2_with fail
  refine H.out.mono ?_
  rintro r w1 ⟨A1, c1, rfl, h1, h2⟩
  go_wp2_with fail
  go_ret
  exact ⟨A1, c1, rfl, h1, h2⟩

set_option maxRecDepth 100000 in
set_option maxHeartbeats 1000000 in
theorem sortedE_any {w0 w : World} {A : Option Addr} {m c : Nat} {l : List GEdge} (hl : SliceIs Enc.edge w0 w0.heap.size A m c l) (hb0 : Below w0.heap.size w0 w) {g : Nat} (hg : w.heap[g]? = some (.cells #[.slice A m c] 22 (0, 0))) (hm : m ≤ 10000) :
    Calls Try.prog 51 #[.func (.func 68) #[] #[.pointer (some ⟨g, 0, none⟩)], .func (.func 25) #[] #[]] w (CollEPost (sortE l) w) := by
  have H := Lib.hid (collectE_any hl hb0 hg hm)
  have hln : l.length ≤ 10000 := by have := hl.1; omega
  obtain ⟨P, HP⟩ : ∃ P : Ending → World → Prop, Hid (P = CollEPost (sortE l) w) := ⟨_, rfl⟩
  rw [← HP.out]
  clear hg hb0 hl hm
  go_enter Try.func51, Try.ntmps51
  go_wp2_with fail
  refine H.out.mono ?_
  rintro r w1 ⟨A1, c1, rfl, h1, h2⟩
  have HS := Lib.hid (sortE_any w.heap.size A1 l.length c1 l w1 h1 rfl (by omega))
  have HB : Hid (∀ b ∈ blkOf A1, w.heap.size ≤ b) := fun b hb => (own_blk h1 (by rw [← ownBlock_blk A1 l.length c1] at hb; exact Option.mem_toList.1 hb)).1
  have HB1 := Lib.hid h2
  clear h1 h2
  go_wp2_with fail
  refine HS.out.mono ?_
  rintro r w2 ⟨rfl, h3, h4⟩
  have HE : Hid (P (.returned (.slice A1 l.length c1)) w2) := by
    show P _ _
    rw [HP.out]
    have hsl : (sortE l).length = l.length := by unfold sortE; exact List.length_mergeSort _
    exact ⟨A1, c1, by rw [hsl], by rw [hsl]; exact h3, HB1.out.trans (h4.below HB.out HB1.out.size)⟩
  clear h3 h4
  go_wp2_with fail
  first
    | exact HE.out
    | (go_ret; exact HE.out)
end Go.Proofs.Ytdbpbchhkdconaa

/- slices.Compact at edges. -/
namespace Go.Proofs.Ytdbpbchhkdconaa
open Go.RowKit

theorem edge_ext {x y : GEdge} (ha : x.a = y.a) (hb : x.b = y.b) (hn : x.n = y.n) : x = y := by
  cases x; cases y; simp_all
/-- without one's like next to it -/
def cpE : List GEdge → List GEdge
  | [] => []
  | [x] => [x]
  | x :: y :: l => if x = y then cpE (y :: l) else x :: cpE (y :: l)
theorem cpE_snoc : ∀ (l : List GEdge) (y x : GEdge), cpE (l ++ [y] ++ [x]) = if y = x then cpE (l ++ [y]) else cpE (l ++ [y]) ++ [x]
  | [], y, x => by
    show cpE [y, x] = _
    by_cases h : y = x
    · simp [cpE, h]
    · simp [cpE, h]
  | [z], y, x => by
    show cpE [z, y, x] = if y = x then cpE [z, y] else cpE [z, y] ++ [x]
    by_cases h : y = x
    · subst h; by_cases h2 : z = y <;> simp [cpE, h2]
    · by_cases h2 : z = y <;> simp [cpE, h2, h]
  | z :: u :: l, y, x => by
    have ih := cpE_snoc (u :: l) y x
    show cpE (z :: u :: (l ++ [y] ++ [x])) = if y = x then cpE (z :: u :: (l ++ [y])) else cpE (z :: u :: (l ++ [y])) ++ [x]
    replace ih : cpE (u :: (l ++ [y] ++ [x])) = if y = x then cpE (u :: (l ++ [y])) else cpE (u :: (l ++ [y])) ++ [x] := ih
    unfold cpE
    by_cases h : z = u
    · rw [if_pos h, if_pos h]; exact ih
    · rw [if_neg h, if_neg h, ih]
      split <;> rfl
theorem cpE_take {L : List GEdge} {p : Nat} {x y : GEdge} (hx : L[p + 1]? = some x) (hy : L[p]? = some y) : cpE (L.take (p + 2)) = if y = x then cpE (L.take (p + 1)) else cpE (L.take (p + 1)) ++ [x] := by
  have e1 : L.take (p + 1) = L.take p ++ [y] := by rw [List.take_add_one, hy]; rfl
  have e2 : L.take (p + 2) = L.take p ++ [y] ++ [x] := by rw [show p + 2 = p + 1 + 1 from rfl, List.take_add_one, hx, e1]; rfl
  rw [e2, e1]
  exact cpE_snoc _ _ _
/-- no two neighbours alike among the first k -/
def Parted (L : List GEdge) (k : Nat) : Prop := ∀ (i : Nat) (x y : GEdge), i + 1 < k → L[i + 1]? = some x → L[i]? = some y → ¬ y = x
theorem cpE_parted {L : List GEdge} : ∀ {k : Nat}, k ≤ L.length → Parted L k → cpE (L.take k) = L.take k
  | 0, _, _ => by rw [List.take_zero]; rfl
  | 1, h, _ => by
    obtain ⟨x, hx⟩ : ∃ x, L[0]? = some x := ⟨_, List.getElem?_eq_getElem (by omega)⟩
    rw [show (1 : Nat) = 0 + 1 from rfl, List.take_add_one, hx]; rfl
  | k + 2, h, hp => by
    obtain ⟨x, hx⟩ : ∃ x, L[k + 1]? = some x := ⟨_, List.getElem?_eq_getElem (by omega)⟩
    obtain ⟨y, hy⟩ : ∃ y, L[k]? = some y := ⟨_, List.getElem?_eq_getElem (by omega)⟩
    rw [cpE_take hx hy, if_neg (hp k x y (by omega) hx hy), cpE_parted (k := k + 1) (by omega) (fun i a b hi => hp i a b (by omega))]
    rw [show k + 2 = k + 1 + 1 from rfl, List.take_add_one (i := k + 1), hx]; rfl
theorem cpE_mem : ∀ (L : List GEdge) (x : GEdge), x ∈ cpE L → x ∈ L
  | [], _, h => h
  | [y], _, h => h
  | y :: z :: l, x, h => by
    unfold cpE at h
    split at h
    · exact List.mem_cons_of_mem _ (cpE_mem (z :: l) x h)
    · rcases List.mem_cons.1 h with h | h
      · rw [h]; exact List.mem_cons_self ..
      · exact List.mem_cons_of_mem _ (cpE_mem (z :: l) x h)
theorem run_eql_edge (x y : GEdge) (w : World) : (binOp .eql 32 x.v y.v).run Try.prog w = .ok (.bool (decide (x = y))) w := by
  rw [run_eql_struct, run_equalIn_agg (ht := by kernel_rfl) (hp := by kernel_rfl)]
  obtain ⟨xa, xb, xn⟩ := x
  obtain ⟨ya, yb, yn⟩ := y
  have e : decide ((⟨xa, xb, xn⟩ : GEdge) = ⟨ya, yb, yn⟩) = (decide (xa = ya) && decide (xb = yb) && decide (xn = yn)) := by
    rw [Bool.eq_iff_iff]; simp [and_assoc]
  rw [e]
  simp [go_sem]
  by_cases h1 : xa = ya <;> by_cases h2 : xb = yb <;> by_cases h3 : xn = yn <;> simp [h1, h2, h3]
theorem run_neq_edge (x y : GEdge) (w : World) : (binOp .neq 32 x.v y.v).run Try.prog w = .ok (.bool (!decide (x = y))) w := by
  rw [run_neq_struct, run_equalIn_agg (ht := by kernel_rfl) (hp := by kernel_rfl)]
  obtain ⟨xa, xb, xn⟩ := x
  obtain ⟨ya, yb, yn⟩ := y
  have e : decide ((⟨xa, xb, xn⟩ : GEdge) = ⟨ya, yb, yn⟩) = (decide (xa = ya) && decide (xb = yb) && decide (xn = yn)) := by
    rw [Bool.eq_iff_iff]; simp [and_assoc]
  rw [e]
  simp [go_sem]
  by_cases h1 : xa = ya <;> by_cases h2 : xb = yb <;> by_cases h3 : xn = yn <;> simp [h1, h2, h3]
theorem rowE_cell {w : World} {g t u : Nat} {R : List GEdge} {tl : List Value} (h : w.heap[g]? = some (.cells (R.flatMap GEdge.cells ++ tl).toArray 32 (0, 0))) {x : GEdge} (hx : R[t]? = some x) (hu : u < 3) : w.cell? ⟨g, t * 3 + u, none⟩ = x.cells[u]? := by
  rw [cell_of_row _ _ _ _ _ _ h]
  simpa using flat3_get R tl t u x hx hu
theorem rowE_set {w : World} {g i : Nat} {R : List GEdge} {tl : List Value} (h : w.heap[g]? = some (.cells (R.flatMap GEdge.cells ++ tl).toArray 32 (0, 0))) {x : GEdge} (hi : i < R.length) : (((w.setCell ⟨g, i * 3, none⟩ (.int .i64 x.a)).setCell ⟨g, i * 3 + 1, none⟩ (.int .i64 x.b)).setCell ⟨g, i * 3 + 2, none⟩ (.bool x.n)).heap[g]? = some (.cells ((R.set i x).flatMap GEdge.cells ++ tl).toArray 32 (0, 0)) := by
  rw [set_cell8 (set_cell8 (set_cell8 h))]
  simp only [List.setIfInBounds_toArray]
  rw [flat3_set R tl i x hi]

def CpPost (B : Nat) (L : List GEdge) (w : World) (e : Ending) (w' : World) : Prop := ∃ A' m c', e = .returned (.slice A' m c') ∧ SliceIs Enc.edge w' w'.heap.size A' m c' L ∧ Below B w w' ∧ ∀ b ∈ blkOf A', B ≤ b
set_option maxRecDepth 100000 in
set_option maxHeartbeats 8000000 in
theorem compactE_any (B : Nat) (A : Option Addr) (n c : Nat) (L : List GEdge) (w : World) (hB : B ≤ w.heap.size) (hown : w.ownsRow B 32 3 (.slice A n c) n (L.flatMap GEdge.cells)) (hl : L.length = n) (hn : n ≤ 10000) (hok : ∀ x ∈ L, x.ok) :
    Calls Try.prog 50 #[.slice A n c] w (CpPost B (cpE L) w) := by
  have mixed : Try.prog.follows .mixedOrders = true := by kernel_rfl
  have hsl : SliceIs Enc.edge w w.heap.size A n c L := SliceIs.of_flat (E := Enc.edge) GEdge.cells (fun _ => rfl) hown hl (by simp [reachN]; omega) (fun x hx => ⟨rfl, hok x hx⟩)
  have HSl := Lib.hid hsl
  have HBk : Hid (∀ b ∈ blkOf A, B ≤ b) := fun b hb => (own_blk hown (by rw [← ownBlock_blk A n c] at hb; exact Option.mem_toList.1 hb)).1
  have Hl := Lib.hid hl
  have Hok := Lib.hid hok
  obtain ⟨P, HP⟩ : ∃ P : Ending → World → Prop, Hid (P = CpPost B (cpE L) w) := ⟨_, rfl⟩
  rw [← HP.out]
  have HSame : Hid (Parted L n → ∀ W, Below w.heap.size w W → P (.returned (.slice A n c)) W) := fun hp W hW => by
    rw [HP.out]
    have h1 := cpE_parted (L := L) (k := n) (by omega) hp
    rw [List.take_of_length_le (by omega)] at h1
    refine ⟨A, n, c, rfl, ?_, hW.mono hB, HBk.out⟩
    rw [h1]; exact HSl.out.keep hW
  by_cases hn2 : n < 2
  · have i0 : (n : Int) < 2 := by omega
    have HE := Lib.hid (HSame.out (fun i x y hi => by omega) w (Below.refl _ _))
    clear hown hsl hl hok
    go_enter Try.func50, Try.ntmps50
    go_wp2_with fail
    first
      | exact HE.out
      | (go_ret; exact HE.out)
  have i0 : ¬ (n : Int) < 2 := by omega
  obtain ⟨hz, hrow⟩ := hown
  rcases hrow with ⟨hv, h0⟩ | ⟨gr, cap, cur, hv, hg, hh, hnc, hcm, hcs, htk⟩
  · omega
  simp only [Value.slice.injEq] at hv
  obtain ⟨rfl, -, rfl⟩ := hv
  have hgl : gr < w.heap.size := (Array.getElem?_eq_some_iff.1 hh).1
  have hR0 : w.heap[gr]? = some (.cells (L.flatMap GEdge.cells ++ cur.toList.drop (n * 3)).toArray 32 (0, 0)) := by
    rw [hh]
    refine congrArg some (congrArg (fun x => Obj.cells x 32 (0, 0)) ?_)
    rw [← htk, List.take_append_drop]
  generalize cur.toList.drop (n * 3) = tl at hR0
  have HR0 := Lib.hid hR0
  have hcm' := Lib.hid hcm
  clear hsl hl hok hz htk hcs hh hR0 hcm
  go_enter Try.func50, Try.ntmps50
  go_wp2_with fail
  go_loopw [3, 4, 5] (fun vk _ _ wr => ∃ k q : Nat, vk = .int .i64 (k : Int) ∧ k ≤ n ∧ Hid (k = q + 1) ∧ Hid (Parted L k) ∧ Hid (Below w.heap.size w wr)) (fun vk _ _ _ => n - (intOf vk).toNat)
  case atStart => exact ⟨1, 0, by go_num, by omega, rfl, (fun i x y hi => by omega), Below.refl _ _⟩
  case round =>
    obtain ⟨k, q, rfl, hk, Hq, Hp, HB⟩ := hrel
    have k0 : (0 : Int) ≤ (k : Int) := by omega
    by_cases hlt : k < n
    · have k1 : (k : Int) < (n : Int) := by omega
      have g0 : (k : Int) - 1 = (q : Int) := by have := Hq.out; omega
      have g1 : (0 : Int) ≤ (q : Int) := by omega
      have g2 : (q : Int) < (n : Int) := by omega
      obtain ⟨x, hx⟩ : ∃ x, L[k]? = some x := ⟨_, List.getElem?_eq_getElem (by rw [Hl.out]; exact hlt)⟩
      obtain ⟨y, hy⟩ : ∃ y, L[q]? = some y := ⟨_, List.getElem?_eq_getElem (by rw [Hl.out]; omega)⟩
      have hrw := (HB.out.block gr hgl).trans HR0.out
      have x0 : wr.cell? ⟨gr, k * 3, none⟩ = some (.int .i64 x.a) := rowE_cell (u := 0) hrw hx (by omega)
      have x1 : wr.cell? ⟨gr, k * 3 + 1, none⟩ = some (.int .i64 x.b) := rowE_cell (u := 1) hrw hx (by omega)
      have x2 : wr.cell? ⟨gr, k * 3 + 2, none⟩ = some (.bool x.n) := rowE_cell (u := 2) hrw hx (by omega)
      have y0 : wr.cell? ⟨gr, q * 3, none⟩ = some (.int .i64 y.a) := rowE_cell (u := 0) hrw hy (by omega)
      have y1 : wr.cell? ⟨gr, q * 3 + 1, none⟩ = some (.int .i64 y.b) := rowE_cell (u := 1) hrw hy (by omega)
      have y2 : wr.cell? ⟨gr, q * 3 + 2, none⟩ = some (.bool y.n) := rowE_cell (u := 2) hrw hy (by omega)
      have heq : (binOp .eql 32 (.agg #[.int .i64 x.a, .int .i64 x.b, .bool x.n]) (.agg #[.int .i64 y.a, .int .i64 y.b, .bool y.n])).run Try.prog wr.drew = .ok (.bool (decide (x = y))) wr.drew := run_eql_edge x y wr.drew
      have HX := Lib.hid hx
      have HY := Lib.hid hy
      have HBd : Hid (Below w.heap.size w wr.drew) := Below.drew HB.out
      have HRd : Hid (wr.drew.heap[gr]? = some (.cells (L.flatMap GEdge.cells ++ tl).toArray 32 (0, 0))) := hrw
      clear hx hy hrw
      by_cases hxy : x = y
      · subst hxy
        clear heq
        go_wp2_with fail
        refine drawnS mixed _ (fun W => W = wr.drew) rfl (by kernel_rfl) rfl rfl ?_
        iterate 9
          apply seqS_op
          · rintro W rfl
            go_wp2_with fail
            exact ⟨rfl, rfl, fun d hd => by cases hd; simp only [List.getElem?_toArray, List.getElem?_cons_succ, List.getElem?_cons_zero]; rfl, rfl⟩
          simp only [Act.put, List.setIfInBounds_toArray, List.set_cons_succ, List.set_cons_zero]
        apply seqS_op (v := .bool true)
        · rintro W rfl
          go_wp2_with fail
          exact ⟨rfl, rfl, fun d hd => by cases hd; simp only [List.getElem?_toArray, List.getElem?_cons_succ, List.getElem?_cons_zero], rfl⟩
        simp only [Act.put, List.setIfInBounds_toArray, List.set_cons_succ, List.set_cons_zero]
        apply seqS_end
        rintro W rfl
        clear x0 x1 x2 y0 y1 y2
        have hcp0 : cpE (L.take (k + 1)) = L.take k := by
          have h1 := cpE_take (L := L) (p := q) (by rw [← Hq.out]; exact HX.out) HY.out
          rw [if_pos rfl, cpE_parted (k := q + 1) (by rw [Hl.out]; omega) (by rw [← Hq.out]; exact Hp.out)] at h1
          rw [Hq.out]; exact h1
        have HC0 := Lib.hid hcp0
        clear hcp0
        have b1 : (k : Int) ≤ (n : Int) := by omega
        have b2 : (n : Int) ≤ (c : Int) := by omega
        have b3 : (k : Int) ≤ (c : Int) := by omega
        obtain ⟨D0, hD0⟩ : ∃ D, D = wr.drew := ⟨_, rfl⟩
        rw [← hD0] at HBd HRd ⊢
        clear hD0
        go_wp2_with fail
        have hkn : k < n := hlt
        have HK0 := Lib.hid k0
        go_loopw [3, 5] (fun vi vq wr => ∃ (i p : Nat) (R : List GEdge), vi = .int .i64 (i : Int) ∧ vq = .int .i64 (p : Int) ∧ 1 ≤ p ∧ k + p ≤ n ∧ i + 1 ≤ k + p ∧ Hid (wr.heap[gr]? = some (.cells (R.flatMap GEdge.cells ++ tl).toArray 32 (0, 0))) ∧ Hid (R.length = n) ∧ Hid (R.take i = cpE (L.take (k + p))) ∧ Hid ((cpE (L.take (k + p))).length = i) ∧ Hid (∀ (t : Nat) (x : GEdge), k + p ≤ t + 1 → L[t]? = some x → R[t]? = some x) ∧ Hid (Below B w wr) ∧ w.heap.size ≤ wr.heap.size) (fun _ vq _ => n - k - (intOf vq).toNat)
        case atStart =>
          refine ⟨k, 1, L, rfl, by go_num, by omega, by omega, by omega, HRd, Hl.out, HC0.out.symm, ?_, (fun t x _ h => h), HBd.out.mono hB, HBd.out.size⟩
          show _ = _
          rw [HC0.out, List.length_take, Hl.out]; omega
        case round =>
          obtain ⟨i, p, R, rfl, rfl, hp1, hpn, hip, HRr, HRl, HRk, HRn, HRh, HBr, hzr⟩ := hrel
          have p0 : (0 : Int) ≤ (p : Int) := by omega
          by_cases hlp : k + p < n
          · have p1 : (p : Int) < ((n - k : Nat) : Int) := by omega
            obtain ⟨r, hr⟩ : ∃ r : Nat, (p : Int) - 1 = (r : Int) := ⟨p - 1, by omega⟩
            have r0 : (0 : Int) ≤ (r : Int) := by omega
            have r1 : (r : Int) < ((n - k : Nat) : Int) := by omega
            have hpr : p = r + 1 := by omega
            obtain ⟨u, hu⟩ : ∃ u, L[k + p]? = some u := ⟨_, List.getElem?_eq_getElem (by rw [Hl.out]; exact hlp)⟩
            obtain ⟨v, hv⟩ : ∃ v, L[k + r]? = some v := ⟨_, List.getElem?_eq_getElem (by rw [Hl.out]; omega)⟩
            have hRu := HRh.out (k + p) u (by omega) hu
            have hRv := HRh.out (k + r) v (by omega) hv
            have e1 : (k + p) * 3 = k * 3 + p * 3 := by omega
            have e2 : (k + r) * 3 = k * 3 + r * 3 := by omega
            have x0 : wr.cell? ⟨gr, k * 3 + p * 3, none⟩ = some (.int .i64 u.a) := by rw [← e1]; exact rowE_cell (u := 0) HRr.out hRu (by omega)
            have x1 : wr.cell? ⟨gr, k * 3 + p * 3 + 1, none⟩ = some (.int .i64 u.b) := by rw [← e1]; exact rowE_cell (u := 1) HRr.out hRu (by omega)
            have x2 : wr.cell? ⟨gr, k * 3 + p * 3 + 2, none⟩ = some (.bool u.n) := by rw [← e1]; exact rowE_cell (u := 2) HRr.out hRu (by omega)
            have y0 : wr.cell? ⟨gr, k * 3 + r * 3, none⟩ = some (.int .i64 v.a) := by rw [← e2]; exact rowE_cell (u := 0) HRr.out hRv (by omega)
            have y1 : wr.cell? ⟨gr, k * 3 + r * 3 + 1, none⟩ = some (.int .i64 v.b) := by rw [← e2]; exact rowE_cell (u := 1) HRr.out hRv (by omega)
            have y2 : wr.cell? ⟨gr, k * 3 + r * 3 + 2, none⟩ = some (.bool v.n) := by rw [← e2]; exact rowE_cell (u := 2) HRr.out hRv (by omega)
            have hne : (binOp .neq 32 (.agg #[.int .i64 u.a, .int .i64 u.b, .bool u.n]) (.agg #[.int .i64 v.a, .int .i64 v.b, .bool v.n])).run Try.prog wr.drew = .ok (.bool (!decide (u = v))) wr.drew := run_neq_edge u v wr.drew
            have hcs : cpE (L.take (k + p + 1)) = if v = u then cpE (L.take (k + p)) else cpE (L.take (k + p)) ++ [u] := by
              have h1 := cpE_take (L := L) (p := k + r) (x := u) (y := v) (by rw [show k + r + 1 = k + p by omega]; exact hu) hv
              rw [show k + r + 2 = k + p + 1 by omega, show k + r + 1 = k + p by omega] at h1
              exact h1
            have Hcs := Lib.hid hcs
            have HBd2 : Hid (Below B w wr.drew) := Below.drew HBr.out
            have HRd2 : Hid (wr.drew.heap[gr]? = some (.cells (R.flatMap GEdge.cells ++ tl).toArray 32 (0, 0))) := HRr.out
            have Hpr := Lib.hid hpr
            have HU := Lib.hid hu
            clear hu hv hRu hRv e1 e2 hcs hpr
            by_cases huv : u = v
            · subst huv
              clear hne
              have HC2 : Hid (cpE (L.take (k + (p + 1))) = cpE (L.take (k + p))) := by
                show _ = _
                rw [← Nat.add_assoc, Hcs.out, if_pos rfl]
              have HRk2 : Hid (R.take i = cpE (L.take (k + (p + 1)))) := by show _ = _; rw [HC2.out]; exact HRk.out
              have HRn2 : Hid ((cpE (L.take (k + (p + 1)))).length = i) := by show _ = _; rw [HC2.out]; exact HRn.out
              have HRh2 : Hid (∀ (t : Nat) (x : GEdge), k + (p + 1) ≤ t + 1 → L[t]? = some x → R[t]? = some x) := fun t x ht => HRh.out t x (by omega)
              go_wp2_with fail
              refine drawnS mixed _ (fun W => W = wr.drew) rfl (by kernel_rfl) rfl rfl ?_
              iterate 9
                apply seqS_op
                · rintro W rfl
                  go_wp2_with fail
                  exact ⟨rfl, rfl, fun d hd => by cases hd; simp only [List.getElem?_toArray, List.getElem?_cons_succ, List.getElem?_cons_zero]; rfl, rfl⟩
                simp only [Act.put, List.setIfInBounds_toArray, List.set_cons_succ, List.set_cons_zero]
              apply seqS_op (v := .bool false)
              · rintro W rfl
                go_wp2_with fail
                exact ⟨rfl, rfl, fun d hd => by cases hd; simp only [List.getElem?_toArray, List.getElem?_cons_succ, List.getElem?_cons_zero], rfl⟩
              simp only [Act.put, List.setIfInBounds_toArray, List.set_cons_succ, List.set_cons_zero]
              apply seqS_end
              rintro W rfl
              go_wp2_with fail
              go_roundw
              case rel => exact ⟨i, p + 1, R, rfl, by go_num, by omega, by omega, by omega, HRd2, HRl, HRk2, HRn2, HRh2, HBd2, hzr⟩
              case measure => simp [intOf]; omega
            · clear hne
              have HNE := Lib.hid huv
              have hin : i < n := by omega
              have HC2 : Hid (cpE (L.take (k + (p + 1))) = cpE (L.take (k + p)) ++ [u]) := by
                show _ = _
                rw [← Nat.add_assoc, Hcs.out, if_neg (fun h => huv h.symm)]
              have HRr3 : Hid ((((wr.drew.setCell ⟨gr, i * 3, none⟩ (.int .i64 u.a)).setCell ⟨gr, i * 3 + 1, none⟩ (.int .i64 u.b)).setCell ⟨gr, i * 3 + 2, none⟩ (.bool u.n)).heap[gr]? = some (.cells ((R.set i u).flatMap GEdge.cells ++ tl).toArray 32 (0, 0))) := rowE_set HRd2.out (by rw [HRl.out]; exact hin)
              have HRl3 : Hid ((R.set i u).length = n) := by show _ = _; rw [List.length_set]; exact HRl.out
              have HRk3 : Hid ((R.set i u).take (i + 1) = cpE (L.take (k + (p + 1)))) := by
                show _ = _
                rw [HC2.out, ← HRk.out, List.take_add_one, List.take_set_of_le (by omega), List.getElem?_set_self (by rw [HRl.out]; exact hin)]
                rfl
              have HRn3 : Hid ((cpE (L.take (k + (p + 1)))).length = i + 1) := by show _ = _; rw [HC2.out, List.length_append, HRn.out]; rfl
              have HRh3 : Hid (∀ (t : Nat) (x : GEdge), k + (p + 1) ≤ t + 1 → L[t]? = some x → (R.set i u)[t]? = some x) := fun t x ht hx => by
                rw [List.getElem?_set_ne (by omega)]
                exact HRh.out t x (by omega) hx
              have HB3 : Hid (Below B w (((wr.drew.setCell ⟨gr, i * 3, none⟩ (.int .i64 u.a)).setCell ⟨gr, i * 3 + 1, none⟩ (.int .i64 u.b)).setCell ⟨gr, i * 3 + 2, none⟩ (.bool u.n))) := ((HBd2.out.setCell (show B ≤ gr from hg) _).setCell (show B ≤ gr from hg) _).setCell (show B ≤ gr from hg) _
              have hz3 : w.heap.size ≤ (((wr.drew.setCell ⟨gr, i * 3, none⟩ (.int .i64 u.a)).setCell ⟨gr, i * 3 + 1, none⟩ (.int .i64 u.b)).setCell ⟨gr, i * 3 + 2, none⟩ (.bool u.n)).heap.size := by simpa using hzr
              have hRi : i < R.length := by rw [HRl.out]; exact hin
              have hci := List.getElem?_eq_getElem hRi
              have q0 : wr.cell? ⟨gr, i * 3, none⟩ = some (.int .i64 R[i].a) := rowE_cell (u := 0) HRr.out hci (by omega)
              have q1 : wr.cell? ⟨gr, i * 3 + 1, none⟩ = some (.int .i64 R[i].b) := rowE_cell (u := 1) HRr.out hci (by omega)
              have q2 : wr.cell? ⟨gr, i * 3 + 2, none⟩ = some (.bool R[i].n) := rowE_cell (u := 2) HRr.out hci (by omega)
              have qf : ∀ o, wr.frozen? ⟨gr, o, none⟩ = false := fun o => frozen_of_row _ _ _ _ _ HRr.out
              have qf0 := qf (i * 3)
              have qf1 := qf (i * 3 + 1)
              have qf2 := qf (i * 3 + 2)
              generalize R[i].a = ra at *
              generalize R[i].b = rb at *
              generalize R[i].n = rn at *
              have i5 : (0 : Int) ≤ (i : Int) := by omega
              have i6 : (i : Int) < (n : Int) := by omega
              clear huv hRi hci qf
              go_wp2_with fail
              refine drawnS mixed _ (fun W => W = wr.drew) rfl (by kernel_rfl) rfl rfl ?_
              iterate 9
                apply seqS_op
                · rintro W rfl
                  go_wp2_with fail
                  exact ⟨rfl, rfl, fun d hd => by cases hd; simp only [List.getElem?_toArray, List.getElem?_cons_succ, List.getElem?_cons_zero]; rfl, rfl⟩
                simp only [Act.put, List.setIfInBounds_toArray, List.set_cons_succ, List.set_cons_zero]
              apply seqS_op (v := .bool true)
              · rintro W rfl
                go_wp2_with fail
                all_goals first
                  | exact absurd (edge_ext (by assumption) (by assumption) (by assumption)) HNE.out
                  | exact ⟨rfl, rfl, fun d hd => by (cases hd; simp only [List.getElem?_toArray, List.getElem?_cons_succ, List.getElem?_cons_zero]; done), rfl⟩
              simp only [Act.put, List.setIfInBounds_toArray, List.set_cons_succ, List.set_cons_zero]
              apply seqS_end
              rintro W rfl
              go_wp2_with fail
              go_roundw
              case rel => exact ⟨i + 1, p + 1, R.set i u, by go_num, by go_num, by omega, by omega, by omega, HRr3, HRl3, HRk3, HRn3, HRh3, HB3, hz3⟩
              case measure => simp [intOf]; omega
          · have p1 : ¬ (p : Int) < ((n - k : Nat) : Int) := by omega
            have hkp : k + p = n := by omega
            have hin : i < n := by omega
            have hrw := HRr.out
            obtain ⟨Z, hcl⟩ := run_clear_edges wr 0 gr (i * 3) (n - i) (c - i) (by omega)
              (fun t ht => by
                have h1 : i + t / 3 < R.length := by rw [HRl.out]; omega
                have h2 := rowE_cell (u := t % 3) hrw (List.getElem?_eq_getElem h1) (Nat.mod_lt _ (by omega))
                have e : (i + t / 3) * 3 + t % 3 = i * 3 + t := by omega
                rw [e] at h2
                rw [h2]
                have : t % 3 = 0 ∨ t % 3 = 1 ∨ t % 3 = 2 := by omega
                rcases this with h | h | h <;> rw [h] <;> rfl)
              (fun t _ => frozen_of_row _ _ _ _ _ hrw)
            have hcl2 : ∀ ty, (Builtin.clear_ #[22] ty #[.slice (some ⟨gr, i * 3, none⟩) (n - i) (c - i)]).run Try.prog wr = .ok (.tuple #[]) (wr.setCells gr (i * 3) Z) := fun ty => hcl
            have HE : Hid (P (.returned (.slice (some ⟨gr, 0, none⟩) i c)) (wr.setCells gr (i * 3) Z)) := by
              show P _ _
              rw [HP.out]
              have hkept := HRk.out
              have hnum := HRn.out
              rw [hkp, List.take_of_length_le (l := L) (i := n) (by rw [Hl.out]; exact Nat.le_refl _)] at hkept hnum
              have hbl := below_cells B gr hg Z (i * 3) wr
              refine ⟨some ⟨gr, 0, none⟩, i, c, rfl, ⟨hnum, by omega, hcm'.out, by simp [reachN]; omega, .inr ⟨gr, 0, rfl, ?_, fun t x hx => ?_⟩⟩, HBr.out.trans hbl, fun b hb => by simp [blkOf] at hb; subst hb; exact hg⟩
              · have h1 := (Array.getElem?_eq_some_iff.1 hrw).1
                have h2 := hbl.size
                omega
              · have ht : t < i := by have := (List.getElem?_eq_some_iff.1 hx).1; omega
                have hRt : R[t]? = some x := by
                  have h1 : (R.take i)[t]? = some x := by rw [hkept]; exact hx
                  rw [List.getElem?_take_of_lt ht] at h1
                  exact h1
                have hxok : x.ok := Hok.out x (cpE_mem L x (List.mem_of_getElem? hx))
                refine ⟨x.cells, ⟨rfl, hxok⟩, fun u v hv => ?_⟩
                have hu : u < 3 := (List.getElem?_eq_some_iff.1 hv).1
                show World.cell? _ ⟨gr, 0 + t * 3 + u, none⟩ = some v
                rw [Nat.zero_add, World.cell?_setCells_out gr _ (i * 3) wr ⟨gr, t * 3 + u, none⟩ (fun _ _ => .inl (show t * 3 + u < i * 3 by omega)), rowE_cell hrw hRt hu, hv]
            have i5 : (0 : Int) ≤ (i : Int) := by omega
            have i6 : (i : Int) ≤ (n : Int) := by omega
            have i7 : (i : Int) ≤ (c : Int) := by omega
            clear hrw hcl HRr HRk HRn HRh HBr
            go_wp2_with fail
            first
              | exact HE.out
              | (go_ret; exact HE.out)
      · clear heq
        have HNE := Lib.hid hxy
        have Hp2 : Hid (Parted L (k + 1)) := fun i a b hi ha hb => by
          rcases Nat.lt_or_ge (i + 1) k with h | h
          · exact Hp.out i a b h ha hb
          · obtain rfl : i = q := by have := Hq.out; omega
            rw [← Hq.out, HX.out] at ha
            rw [HY.out] at hb
            injection ha with ha; injection hb with hb
            subst ha hb
            exact fun h => hxy h.symm
        have Hq2 : Hid (k + 1 = k + 1) := rfl
        clear hxy
        go_wp2_with fail
        refine drawnS mixed _ (fun W => W = wr.drew) rfl (by kernel_rfl) rfl rfl ?_
        iterate 9
          apply seqS_op
          · rintro W rfl
            go_wp2_with fail
            exact ⟨rfl, rfl, fun d hd => by cases hd; simp only [List.getElem?_toArray, List.getElem?_cons_succ, List.getElem?_cons_zero]; rfl, rfl⟩
          simp only [Act.put, List.setIfInBounds_toArray, List.set_cons_succ, List.set_cons_zero]
        apply seqS_op (v := .bool false)
        · rintro W rfl
          go_wp2_with fail
          all_goals first
            | exact absurd (edge_ext (by assumption) (by assumption) (by assumption)) HNE.out
            | exact ⟨rfl, rfl, fun d hd => by (cases hd; simp only [List.getElem?_toArray, List.getElem?_cons_succ, List.getElem?_cons_zero]; done), rfl⟩
        simp only [Act.put, List.setIfInBounds_toArray, List.set_cons_succ, List.set_cons_zero]
        apply seqS_end
        rintro W rfl
        go_wp2_with fail
        go_roundw
        case rel => exact ⟨k + 1, k, by go_num, by omega, rfl, Hp2, HBd⟩
        case measure => simp [intOf]; omega
    · have k1 : ¬ (k : Int) < (n : Int) := by omega
      obtain rfl : k = n := by omega
      have HE := Lib.hid (HSame.out Hp.out wr HB.out)
      go_wp2_with fail
      first
        | exact HE.out
        | (go_ret; exact HE.out)
end Go.Proofs.Ytdbpbchhkdconaa

/- deps.New where all lies within. -/
namespace Go.Proofs.Ytdbpbchhkdconaa
open Go.RowKit

set_option maxRecDepth 100000 in
set_option maxHeartbeats 1000000 in
theorem new1_any (x : GEdge) (n : Int) (g : Nat) (w : World) (hg : w.cell? ⟨g, 0, none⟩ = some (.int .i64 n)) : Calls Try.prog 49 #[x.v, .pointer (some ⟨g, 0, none⟩)] w (RetBool (!withinE x n) w) := by
  have c0 := cellA (o := .cells #[.int .i64 x.a, .int .i64 x.b, .bool x.n] 32) hg
  have hbw : Below w.heap.size w (w.alloc (.cells #[.int .i64 x.a, .int .i64 x.b, .bool x.n] 32)) := belowA (Below.refl _ _) _
  have HW := Lib.hid (fun W => within_any x n W)
  have HB := Lib.hid hbw
  clear hg hbw
  go_enter Try.func49, Try.ntmps49
  go_wp2_with fail
  refine (HW.out _).mono ?_
  rintro e w1 ⟨rfl, hb1⟩
  have HE : Hid (Below w.heap.size w w1) := HB.out.trans (hb1.mono HB.out.size)
  clear hb1
  go_wp2_with fail
  go_ret
  exact ⟨by simp, HE.out⟩

set_option maxRecDepth 100000 in
set_option maxHeartbeats 2000000 in
theorem indexE3_any (gp : Nat) (p : GEdge → Bool) (A : Option Addr) (n c : Nat) (L : List GEdge) (w : World) (hl : SliceIs Enc.edge w w.heap.size A n c L)
    (hC : ∀ x ∈ L, ∀ W, Below w.heap.size w W → Calls Try.prog 49 #[x.v, .pointer (some ⟨gp, 0, none⟩)] W (RetBool (p x) W)) :
    Calls Try.prog 47 #[.slice A n c, .func (.func 49) #[] #[.pointer (some ⟨gp, 0, none⟩)]] w (FirstE p L w) := by
  have hn := hl.bound
  have hlen := Lib.hid hl.1
  have HC := Lib.hid hC
  have HL := Lib.hid hl
  clear hC hl
  go_enter Try.func47, Try.ntmps47
  go_wp2_with fail
  go_loopw [5, 8] (fun _ i wr => ∃ k : Nat, k ≤ n ∧ i = .int .i64 (k : Int) ∧ Hid (∀ y ∈ L.take k, p y = false) ∧ Hid (Below w.heap.size w wr)) (fun _ i _ => n - (intOf i).toNat)
  case atStart => exact ⟨0, by omega, rfl, (fun y hy => by simp at hy), Below.refl _ _⟩
  case round =>
    obtain ⟨k, hk, rfl, Hp, HB⟩ := hrel
    have i0 : (0 : Int) ≤ (k : Int) := by omega
    by_cases hlt : k < n
    · have i1 : (k : Int) < (n : Int) := by omega
      obtain ⟨b, o, x, rfl, -, hx, x0, x1, x2, -⟩ := (HL.out.below HB.out).edge_at hlt
      have HCx := Lib.hid (HC.out x (List.mem_of_getElem? hx.out) wr HB.out)
      cases hm : p x with
      | true =>
        rw [hm] at HCx
        have HE : Hid (∀ w2, Below wr.heap.size wr w2 → FirstE p L w (.returned (.int .i64 (k : Int))) w2) := fun w2 h2 => ⟨HB.out.trans (h2.mono HB.out.size), .inr ⟨k, x, rfl, hx.out, hm, Hp.out⟩⟩
        clear hm hx
        go_wp2_with fail
        refine HCx.out.mono ?_
        rintro e w2 ⟨rfl, hb2⟩
        have HE2 := Lib.hid (HE.out w2 hb2)
        clear hb2
        go_wp2_with fail
        go_ret
        exact HE2.out
      | false =>
        rw [hm] at HCx
        have Hp2 : Hid (∀ y ∈ L.take (k + 1), p y = false) := fun y hy => by
          rw [List.take_add_one, hx.out] at hy
          rcases List.mem_append.1 hy with hy | hy
          · exact Hp.out y hy
          · simp at hy; subst hy; exact hm
        clear hm hx
        go_wp2_with fail
        refine HCx.out.mono ?_
        rintro e w2 ⟨rfl, hb2⟩
        have HB2 : Hid (Below w.heap.size w w2) := HB.out.trans (hb2.mono HB.out.size)
        clear hb2
        go_wp2_with fail
        go_roundw
        case rel => exact ⟨k + 1, by omega, by go_num, Hp2, HB2⟩
        case measure => simp [intOf]; omega
    · have i1 : ¬ (k : Int) < (n : Int) := by omega
      have HE : Hid (FirstE p L w (.returned (.int .i64 (-1))) wr) := ⟨HB.out, .inl ⟨rfl, fun x hx => Hp.out x (by rw [List.take_of_length_le (by have := hlen.out; omega)]; exact hx)⟩⟩
      go_wp2_with fail
      go_ret
      exact HE.out

set_option maxRecDepth 100000 in
set_option maxHeartbeats 2000000 in
theorem containsE3_any (gp : Nat) (p : GEdge → Bool) (r : Bool) (A : Option Addr) (n c : Nat) (L : List GEdge) (w : World) (hl : SliceIs Enc.edge w w.heap.size A n c L) (hr : L.any p = r)
    (hC : ∀ x ∈ L, ∀ W, Below w.heap.size w W → Calls Try.prog 49 #[x.v, .pointer (some ⟨gp, 0, none⟩)] W (RetBool (p x) W)) :
    Calls Try.prog 37 #[.slice A n c, .func (.func 49) #[] #[.pointer (some ⟨gp, 0, none⟩)]] w (RetBool r w) := by
  have HIx := Lib.hid (indexE3_any gp p A n c L w hl hC)
  have HRr : Hid (∀ e w', FirstE p L w e w' → ∃ k : Int, e = .returned (.int .i64 k) ∧ decide (0 ≤ k) = r ∧ Below w.heap.size w w') := by
    rintro e w' ⟨hb, (⟨rfl, hall⟩ | ⟨k, x, rfl, hx, hp, -⟩)⟩
    · refine ⟨_, rfl, ?_, hb⟩
      rw [← hr]
      symm
      rw [show decide ((0 : Int) ≤ -1) = false from rfl, List.any_eq_false]
      exact fun x hx h2 => Bool.false_ne_true ((hall x hx).symm.trans h2)
    · refine ⟨_, rfl, ?_, hb⟩
      rw [← hr]
      symm
      rw [decide_eq_true (show (0 : Int) ≤ (k : Int) by omega), List.any_eq_true]
      exact ⟨x, List.mem_of_getElem? hx, hp⟩
  clear hl hr hC
  go_enter Try.func37, Try.ntmps37
  go_wp2_with fail
  refine HIx.out.mono ?_
  intro e w4 hh
  obtain ⟨k, rfl, hk, hb4⟩ := HRr.out e w4 hh
  have Hk := Lib.hid hk
  clear hh hk
  go_wp2_with fail
  go_ret
  exact ⟨by rw [← Hk.out]; rfl, hb4⟩

theorem SliceIs.set_other {w : World} {B n c g o : Nat} {A : Option Addr} {L : List GEdge} {val : Value} (h : SliceIs Enc.edge w B A n c L) (hg : ∀ b ∈ blkOf A, b ≠ g) : SliceIs Enc.edge (w.setCell ⟨g, o, none⟩ val) B A n c L := by
  obtain ⟨h1, h2, h3, h4, h5⟩ := h
  refine ⟨h1, h2, h3, h4, ?_⟩
  rcases h5 with h5 | ⟨b, o', rfl, hb, hc⟩
  · exact .inl h5
  · refine .inr ⟨b, o', rfl, hb, fun t x hx => ?_⟩
    obtain ⟨cs, hok, hcell⟩ := hc t x hx
    refine ⟨cs, hok, fun u v hv => ?_⟩
    have hb' := hg b (by simp [blkOf])
    have e : (w.setCell ⟨g, o, none⟩ val).cell? ⟨b, o' + t * Enc.edge.sz + u, none⟩ = w.cell? ⟨b, o' + t * Enc.edge.sz + u, none⟩ := World.cell?_setCell_other _ _ _ _ (fun h => by injection h with h; exact hb' h.symm)
    exact e.trans (hcell u v hv)
def NewPost (n : Int) (L : List GEdge) (w : World) (e : Ending) (w' : World) : Prop :=
  ∃ A k c, e = .returned (.tuple #[graphV n A k c, .nilIface]) ∧ SliceIs Enc.edge w' w'.heap.size A k c L ∧ Below w.heap.size w w' ∧ ∀ b ∈ blkOf A, w.heap.size ≤ b

set_option maxRecDepth 100000 in
set_option maxHeartbeats 4000000 in
theorem new_any (n : Int) (A : Option Addr) (m c : Nat) (l : List GEdge) (w : World) (h : SliceIs Enc.edge w w.heap.size A m c l) (hm : m ≤ 10000) (h0 : 0 ≤ n) (h1 : n ≤ 32) (hw : ∀ x ∈ l, withinE x n = true) :
    Calls Try.prog 40 #[.int .i64 n, .slice A m c] w (NewPost n (cpE (sortE l)) w) := by
  have i0 : ¬ n < 0 := by omega
  have i1 : ¬ (32 : Int) < n := by omega
  have hbb : Below w.heap.size w ((w.alloc (.cells #[.int .i64 n] 3)).alloc (.cells #[.int .i64 0, .slice none 0 0] 24)) := belowA (belowA (Below.refl _ _) _) _
  have hbx : ((w.alloc (.cells #[.int .i64 n] 3)).alloc (.cells #[.int .i64 0, .slice none 0 0] 24)).heap[w.heap.size]? = some (.cells #[.int .i64 n] 3 (0, 0)) := heapOld (heapNew rfl)
  have hby : ((w.alloc (.cells #[.int .i64 n] 3)).alloc (.cells #[.int .i64 0, .slice none 0 0] 24)).heap[w.heap.size + 1]? = some (.cells #[.int .i64 0, .slice none 0 0] 24 (0, 0)) := heapNew (by simp)
  have hzz : ((w.alloc (.cells #[.int .i64 n] 3)).alloc (.cells #[.int .i64 0, .slice none 0 0] 24)).heap.size = w.heap.size + 2 := by simp
  have HS := Lib.hid h
  have HB0 := Lib.hid hbb
  have HX := Lib.hid hbx
  have HY := Lib.hid hby
  have HZ := Lib.hid hzz
  have hln : l.length = m := h.1
  have Hok : Hid (∀ x ∈ l, x.ok) := fun x hx => by
    obtain ⟨i, hi, rfl⟩ := List.mem_iff_getElem.1 hx
    obtain ⟨b, o, y, -, -, hy, -, -, -, hok⟩ := h.edge_at (i := i) (by omega)
    have : l[i] = y := by have := hy.out; rw [List.getElem?_eq_getElem hi] at this; simpa using this
    rw [this]; exact hok
  have HC := Lib.hid (fun (W : World) (hW : Below ((w.alloc (.cells #[.int .i64 n] 3)).alloc (.cells #[.int .i64 0, .slice none 0 0] 24)).heap.size ((w.alloc (.cells #[.int .i64 n] 3)).alloc (.cells #[.int .i64 0, .slice none 0 0] 24)) W) =>
    containsE3_any w.heap.size (fun x => !withinE x n) false A m c l W (h.mono (hbb.trans (hW.mono hbb.size)).size (hbb.trans (hW.mono hbb.size)).block) (by rw [List.any_eq_false]; intro x hx; rw [hw x hx]; simp) (fun x hx W2 hW2 => new1_any x n w.heap.size W2 ((cell_of_row _ _ 0 _ _ _ ((hW2.block _ (by have := hW.size; simp at this ⊢; omega)).trans ((hW.block _ (by simp; omega)).trans hbx))).trans rfl)))
  clear h hbb hbx hby hzz hw
  go_enter Try.func40, Try.ntmps40
  go_wp2_with fail
  refine (HC.out _ (Below.refl _ _)).mono ?_
  rintro e w2 ⟨rfl, hb2⟩
  have hqs : Below ((w.alloc (.cells #[.int .i64 n] 3)).alloc (.cells #[.int .i64 0, .slice none 0 0] 24)).heap.size ((w.alloc (.cells #[.int .i64 n] 3)).alloc (.cells #[.int .i64 0, .slice none 0 0] 24)) w2 := hb2
  have hz2 : w.heap.size + 2 ≤ w2.heap.size := by have := hqs.size; rw [HZ.out] at this; exact this
  have HBw2 : Hid (Below w.heap.size w w2) := HB0.out.trans (hqs.mono HB0.out.size)
  have HK : Hid (∀ W, Below w2.heap.size w2 W → W.cell? ⟨w.heap.size, 0, none⟩ = some (.int .i64 n) ∧ W.heap[w.heap.size + 1]? = some (.cells #[.int .i64 0, .slice none 0 0] 24 (0, 0))) := fun W hW =>
    ⟨(cell_of_row _ _ 0 _ _ _ ((hW.block _ (by omega)).trans ((hqs.block _ (by rw [HZ.out]; omega)).trans HX.out))).trans rfl, (hW.block _ (by omega)).trans ((hqs.block _ (by rw [HZ.out]; omega)).trans HY.out)⟩
  have HLs : Hid ((sortE l).length = l.length) := List.length_mergeSort _
  have HOs : Hid (∀ x ∈ sortE l, x.ok) := fun x hx => Hok.out x (List.mem_mergeSort.1 hx)
  have k0 := (HK.out w2 (Below.refl _ _)).1
  have hl0 : l.length ≤ 10000 := by omega
  clear hb2 HC hqs
  go_wp2_with fail
  go_region_held3 (fun W => W.cell? ⟨w.heap.size, 0, none⟩ = some (.int .i64 n))
    (first
      | (refine (HK.out _ ?_).1; (repeat (first | with_reducible exact Below.refl _ _ | with_reducible assumption | with_reducible refine Below.drew ?_)); done)
      | go_keep)
    ((first
      | (go_at_call 52
         refine (values_any A m c _).mono ?_
         rintro e3 w3 ⟨rfl, hw3⟩
         have hq3 : Below w2.heap.size w2 w3 := by rw [hw3]; exact belowA (Below.drew (Below.refl _ _)) _
         have hg3 : w3.heap[w2.heap.size]? = some (.cells #[.slice A m c] 22 (0, 0)) := by rw [hw3]; exact heapNew rfl
         clear hw3)
      | (go_at_call 51
         refine (sortedE_any (w0 := w) HS.out (HBw2.out.trans (hq3.mono HBw2.out.size)) hg3 hm).mono ?_
         rintro e4 w4 ⟨A4, c4, rfl, ho4, hb4⟩
         have hq4 : Below w2.heap.size w2 w4 := hq3.trans (hb4.mono hq3.size))
      | (go_at_call 50
         refine (compactE_any w3.heap.size A4 (sortE l).length c4 (sortE l) w4 hb4.size ho4 rfl (by rw [HLs.out]; exact hl0) HOs.out).mono ?_
         rintro e5 w5 ⟨A5, m5, c5, rfl, hs5, hb5, ha5⟩
         have hq5 : Below w2.heap.size w2 w5 := hq4.trans (hb5.mono hq3.size)
         have f0 : w5.cell? ⟨w.heap.size + 1, 0, none⟩ = some (.int .i64 0) := (cell_of_row _ _ 0 _ _ _ (HK.out w5 hq5).2).trans rfl
         have f1 : w5.cell? ⟨w.heap.size + 1, 1, none⟩ = some (.slice none 0 0) := (cell_of_row _ _ 1 _ _ _ (HK.out w5 hq5).2).trans rfl
         have z0 : w5.frozen? ⟨w.heap.size + 1, 0, none⟩ = false := frozen_of_row _ _ _ _ _ (HK.out w5 hq5).2
         have z1 : w5.frozen? ⟨w.heap.size + 1, 1, none⟩ = false := frozen_of_row _ _ _ _ _ (HK.out w5 hq5).2)))
  have HE : Hid (NewPost n (cpE (sortE l)) w (.returned (.tuple #[graphV n A5 m5 c5, .nilIface])) ((w5.setCell ⟨w.heap.size + 1, 0, none⟩ (.int .i64 n)).setCell ⟨w.heap.size + 1, 1, none⟩ (.slice A5 m5 c5))) := by
    have hz := hq3.size
    have hne : ∀ b ∈ blkOf A5, b ≠ w.heap.size + 1 := fun b hb => by have := ha5 b hb; omega
    refine ⟨A5, m5, c5, rfl, ?_, ?_, fun b hb => by have := ha5 b hb; omega⟩
    rotate_left
    · exact (((HBw2.out.trans (hq5.mono HBw2.out.size)).setCell (show w.heap.size ≤ w.heap.size + 1 by omega) _).setCell (show w.heap.size ≤ w.heap.size + 1 by omega) _)
    have h1 := (hs5.set_other (o := 0) (val := .int .i64 n) hne).set_other (o := 1) (val := .slice A5 m5 c5) hne
    simpa using h1
  have g0 : ((w5.setCell ⟨w.heap.size + 1, 0, none⟩ (.int .i64 n)).setCell ⟨w.heap.size + 1, 1, none⟩ (.slice A5 m5 c5)).cell? ⟨w.heap.size + 1, 0, none⟩ = some (.int .i64 n) := by
    rw [World.cell?_setCell_other _ _ _ _ (by simp)]; exact World.cell?_setCell_same _ _ _ f0
  have g1 : ((w5.setCell ⟨w.heap.size + 1, 0, none⟩ (.int .i64 n)).setCell ⟨w.heap.size + 1, 1, none⟩ (.slice A5 m5 c5)).cell? ⟨w.heap.size + 1, 1, none⟩ = some (.slice A5 m5 c5) :=
    World.cell?_setCell_same _ _ _ ((World.cell?_setCell_other _ _ _ _ (by simp)).trans f1)
  clear hq3 hq4 hq5 hs5 hb5 ha5 ho4 hb4 hg3 f0 f1 z0 z1
  generalize (w5.setCell ⟨w.heap.size + 1, 0, none⟩ (.int .i64 n)).setCell ⟨w.heap.size + 1, 1, none⟩ (.slice A5 m5 c5) = w6 at *
  go_wp2_with fail
  refine bodyPost_ret (v := .tuple #[graphV n A5 m5 c5, .nilIface]) ?_ rfl HE.out
  rw [results_cell_tmp rfl]
  go_simp
end Go.Proofs.Ytdbpbchhkdconaa

/- deps.Turned where the graph is right. -/
namespace Go.Proofs.Ytdbpbchhkdconaa
open Go.RowKit

def turnE (x : GEdge) : GEdge := ⟨x.b, x.a, x.n⟩
def turnL (l : List GEdge) : List GEdge := l.map turnE
def TurnPost (n : Int) (L : List GEdge) (w : World) (e : Ending) (w' : World) : Prop :=
  ∃ A k c, e = .returned (graphV n A k c) ∧ SliceIs Enc.edge w' w'.heap.size A k c L ∧ Below w.heap.size w w'
theorem turn_within {n : Int} {l : List GEdge} (hw : ∀ e ∈ l, withinE e n = true) : ∀ e ∈ turnL l, withinE e n = true := by
  intro e he
  obtain ⟨x, hx, rfl⟩ := List.mem_map.1 he
  have := hw x hx
  simp only [withinE, Bool.and_eq_true, turnE] at this ⊢
  exact ⟨⟨⟨this.1.2, this.2⟩, this.1.1.1⟩, this.1.1.2⟩

set_option maxRecDepth 100000 in
set_option maxHeartbeats 4000000 in
theorem turned_any (n : Int) (A : Option Addr) (m c : Nat) (l : List GEdge) (w : World) (h : SliceIs Enc.edge w w.heap.size A m c l) (hm : m ≤ 10000) (hr : rightG n l = true) :
    Calls Try.prog 23 #[graphV n A m c] w (TurnPost n (cpE (sortE (turnL l))) w) := by
  have hlen : l.length = m := h.1
  have Hlen := Lib.hid hlen
  have hn : 0 ≤ n ∧ n ≤ 32 := by
    have := hr
    simp only [rightG, Bool.and_eq_true, decide_eq_true_eq] at this
    exact ⟨this.1.1, this.1.2⟩
  have Hw : Hid (∀ e ∈ turnL l, withinE e n = true) := by
    obtain ⟨N, rfl⟩ : ∃ N : Nat, n = (N : Int) := ⟨n.toNat, by omega⟩
    exact turn_within (right_in hr)
  have Hn := Lib.hid hn
  have hb0 : Below w.heap.size w ((w.alloc (.cells #[.int .i64 n, .slice A m c] 24)).alloc (.cells #[.int .i64 0, .slice none 0 0] 24)) := belowA (belowA (Below.refl _ _) _) _
  have hg0 : ((w.alloc (.cells #[.int .i64 n, .slice A m c] 24)).alloc (.cells #[.int .i64 0, .slice none 0 0] 24)).heap[w.heap.size]? = some (.cells #[.int .i64 n, .slice A m c] 24 (0, 0)) := heapOld (heapNew rfl)
  have hg1 : ((w.alloc (.cells #[.int .i64 n, .slice A m c] 24)).alloc (.cells #[.int .i64 0, .slice none 0 0] 24)).heap[w.heap.size + 1]? = some (.cells #[.int .i64 0, .slice none 0 0] 24 (0, 0)) := heapNew (by simp)
  have c0 : ((w.alloc (.cells #[.int .i64 n, .slice A m c] 24)).alloc (.cells #[.int .i64 0, .slice none 0 0] 24)).cell? ⟨w.heap.size, 0, none⟩ = some (.int .i64 n) := (cell_of_row _ _ 0 _ _ _ hg0).trans rfl
  have c1 : ((w.alloc (.cells #[.int .i64 n, .slice A m c] 24)).alloc (.cells #[.int .i64 0, .slice none 0 0] 24)).cell? ⟨w.heap.size, 1, none⟩ = some (.slice A m c) := (cell_of_row _ _ 1 _ _ _ hg0).trans rfl
  have hR := right_any n A m c l _ (h.mono hb0.size hb0.block)
  rw [hr] at hR
  have HR := Lib.hid hR
  have HS := Lib.hid h
  have HB0 := Lib.hid hb0
  have HG0 := Lib.hid hg0
  have HG1 := Lib.hid hg1
  have HZ : Hid (((w.alloc (.cells #[.int .i64 n, .slice A m c] 24)).alloc (.cells #[.int .i64 0, .slice none 0 0] 24)).heap.size = w.heap.size + 2) := by show _ = _; simp
  obtain ⟨P, HP⟩ : ∃ P : Ending → World → Prop, Hid (P = TurnPost n (cpE (sortE (turnL l))) w) := ⟨_, rfl⟩
  rw [← HP.out]
  clear h hlen hn hb0 hg0 hg1 hR hr
  go_enter Try.func23, Try.ntmps23
  go_wp2_with fail
  refine HR.out.mono ?_
  rintro e V ⟨rfl, hbV⟩
  have hzV : w.heap.size + 2 ≤ V.heap.size := by have := hbV.size; rw [HZ.out] at this; exact this
  have HBV : Hid (Below w.heap.size w V) := HB0.out.trans (hbV.mono HB0.out.size)
  have HV0 : Hid (V.heap[w.heap.size]? = some (.cells #[.int .i64 n, .slice A m c] 24 (0, 0))) := (hbV.block _ (by rw [HZ.out]; omega)).trans HG0.out
  have HV1 : Hid (V.heap[w.heap.size + 1]? = some (.cells #[.int .i64 0, .slice none 0 0] 24 (0, 0))) := (hbV.block _ (by rw [HZ.out]; omega)).trans HG1.out
  have d1 : V.cell? ⟨w.heap.size, 1, none⟩ = some (.slice A m c) := (cell_of_row _ _ 1 _ _ _ HV0.out).trans rfl
  clear hbV HB0 HG0 HG1 HR c0 c1
  go_wp2_with fail
  go_loopw [3, 15] (fun vs vi wr => ∃ (k : Nat) (Ao : Option Addr) (co : Nat), k ≤ m ∧ vs = .slice Ao k co ∧ vi = .int .i64 (k : Int) ∧ Hid (RowOf Enc.edge wr V.heap.size 32 ((w.heap.size + 1) :: blkOf Ao) Ao k co ((turnL l).take k)) ∧ Hid (Below V.heap.size V wr)) (fun _ vi _ => m - (intOf vi).toNat)
  case atStart => exact ⟨0, none, 0, by omega, rfl, rfl, RowOf.nil _, Below.refl _ _⟩
  case round =>
    obtain ⟨k, Ao, co, hk, rfl, rfl, HRo, HB⟩ := hrel
    have i0 : (0 : Int) ≤ (k : Int) := by omega
    have HBw : Hid (Below w.heap.size w wr) := HBV.out.trans (HB.out.mono HBV.out.size)
    by_cases hlt : k < m
    · have i1 : (k : Int) < (m : Int) := by omega
      obtain ⟨b, o, x, rfl, -, hx, x0, x1, x2, hfx⟩ := (HS.out.below HBw.out).edge_at hlt
      have hb1 : Below wr.heap.size wr (wr.alloc (.cells #[.int .i64 x.a, .int .i64 x.b, .bool x.n] 32)) := belowA (Below.refl _ _) _
      have hb2 : Below wr.heap.size wr ((wr.alloc (.cells #[.int .i64 x.a, .int .i64 x.b, .bool x.n] 32)).alloc (.cells #[.int .i64 x.b, .int .i64 x.a, .bool x.n] 32)) := belowA hb1 _
      have e0 : (wr.alloc (.cells #[.int .i64 x.a, .int .i64 x.b, .bool x.n] 32)).cell? ⟨wr.heap.size, 0, none⟩ = some (.int .i64 x.a) := (cell_of_row _ _ 0 _ _ _ (heapNew (w := wr) rfl)).trans rfl
      have e1 : (wr.alloc (.cells #[.int .i64 x.a, .int .i64 x.b, .bool x.n] 32)).cell? ⟨wr.heap.size, 1, none⟩ = some (.int .i64 x.b) := (cell_of_row _ _ 1 _ _ _ (heapNew (w := wr) rfl)).trans rfl
      have e2 : (wr.alloc (.cells #[.int .i64 x.a, .int .i64 x.b, .bool x.n] 32)).cell? ⟨wr.heap.size, 2, none⟩ = some (.bool x.n) := (cell_of_row _ _ 2 _ _ _ (heapNew (w := wr) rfl)).trans rfl
      have hzr := HB.out.size
      have ha := HRo.out.below hb2
      have hok : Enc.edge.ok (sans ((wr.alloc (.cells #[.int .i64 x.a, .int .i64 x.b, .bool x.n] 32)).alloc (.cells #[.int .i64 x.b, .int .i64 x.a, .bool x.n] 32)) ((w.heap.size + 1) :: blkOf Ao)) ((wr.alloc (.cells #[.int .i64 x.a, .int .i64 x.b, .bool x.n] 32)).alloc (.cells #[.int .i64 x.b, .int .i64 x.a, .bool x.n] 32)).heap.size [.int .i64 x.b, .int .i64 x.a, .bool x.n] (turnE x) := ⟨rfl, hfx.2, hfx.1⟩
      obtain ⟨A2, c2, w2, u2, q2, o2, p2⟩ := ha.push (P := Try.prog) (t := 22) (ty := 22) Try.underlying22 info_edge rfl rfl (by decide) _ (wr.heap.size + 1) [.int .i64 x.b, .int .i64 x.a, .bool x.n] (heapNew (by simp)) hok (by intro u hu; simp at hu; rcases hu with rfl | rfl | rfl <;> rfl) (by simp [maxLen]; omega) (by omega) (by simp; omega) (fun b hb => List.mem_cons_of_mem _ hb)
      have U2 := Lib.hid u2
      have HRo' : Hid (RowOf Enc.edge w2 V.heap.size 32 ((w.heap.size + 1) :: blkOf A2) A2 (k + 1) c2 ((turnL l).take (k + 1))) := by
        have h1 := q2 ((w.heap.size + 1) :: blkOf A2) (fun b hb hlt => by
          rcases List.mem_cons.1 hb with hb | hb
          · exact List.mem_cons.2 (.inl hb)
          · rcases p2 b hb with hh | hh
            · exact List.mem_cons_of_mem _ hh
            · omega)
        have e : (turnL l).take (k + 1) = (turnL l).take k ++ [turnE x] := by
          have : (turnL l)[k]? = some (turnE x) := by unfold turnL; rw [List.getElem?_map, hx.out]; rfl
          rw [List.take_add_one, this]; rfl
        show RowOf _ _ _ _ _ _ _ _ _
        rw [e]
        exact h1
      have hAo : ∀ b ∈ blkOf Ao, V.heap.size ≤ b := fun b hb => (HRo.out.blk hb).1
      have HB' : Hid (Below V.heap.size V w2) := (HB.out.trans (hb2.mono HB.out.size)).trans (o2.below hAo (by have := HB.out.size; simp; omega))
      clear hx hAo hb1 hb2 ha hok u2 q2 o2 p2 HRo HB hfx
      go_wp2_with (at_builtin; refine wpList_append_run (o := ⟨some 28, _, _, _, _, _⟩) rfl _ _ _ rfl _ _ rfl rfl U2.out ?_)
      go_roundw
      case rel => exact ⟨k + 1, A2, c2, by omega, rfl, by go_num, HRo', HB'⟩
      case measure => simp [intOf]; omega
    · have i1 : ¬ (k : Int) < (m : Int) := by omega
      obtain rfl : k = m := by omega
      have hzr := HB.out.size
      have d0 : wr.cell? ⟨w.heap.size, 0, none⟩ = some (.int .i64 n) := (cell_of_row _ _ 0 _ _ _ ((HB.out.block _ (by omega)).trans HV0.out)).trans rfl
      have hsl := HRo.out.slice (T := [w.heap.size + 1]) (by simp [reachN]; omega) (fun b hb hh => by have := (HRo.out.blk hb).1; simp at hh; omega) (fun b hh _ => by simp at hh; simp [hh])
      rw [List.take_of_length_le (by unfold turnL; rw [List.length_map, Hlen.out]; exact Nat.le_refl _)] at hsl
      have HN := Lib.hid (new_any n Ao k co (turnL l) wr hsl.is hm Hn.out.1 Hn.out.2 Hw.out)
      clear hsl HRo
      go_wp2_with fail
      refine HN.out.mono ?_
      rintro e w1 ⟨A1, k1, c1, rfl, hs1, hb1, ha1⟩
      have hz1 := hb1.size
      have hW1 : w1.heap[w.heap.size + 1]? = some (.cells #[.int .i64 0, .slice none 0 0] 24 (0, 0)) := (hb1.block _ (by omega)).trans ((HB.out.block _ (by omega)).trans HV1.out)
      have hW2 : (w1.alloc (.cells #[.int .i64 n, .slice A1 k1 c1] 24)).heap[w.heap.size + 1]? = some (.cells #[.int .i64 0, .slice none 0 0] 24 (0, 0)) := heapOld hW1
      have e0 : (w1.alloc (.cells #[.int .i64 n, .slice A1 k1 c1] 24)).cell? ⟨w1.heap.size, 0, none⟩ = some (.int .i64 n) := (cell_of_row _ _ 0 _ _ _ (heapNew (w := w1) rfl)).trans rfl
      have e1 : (w1.alloc (.cells #[.int .i64 n, .slice A1 k1 c1] 24)).cell? ⟨w1.heap.size, 1, none⟩ = some (.slice A1 k1 c1) := (cell_of_row _ _ 1 _ _ _ (heapNew (w := w1) rfl)).trans rfl
      have f0 : (w1.alloc (.cells #[.int .i64 n, .slice A1 k1 c1] 24)).cell? ⟨w.heap.size + 1, 0, none⟩ = some (.int .i64 0) := (cell_of_row _ _ 0 _ _ _ hW2).trans rfl
      have f1 : (w1.alloc (.cells #[.int .i64 n, .slice A1 k1 c1] 24)).cell? ⟨w.heap.size + 1, 1, none⟩ = some (.slice none 0 0) := (cell_of_row _ _ 1 _ _ _ hW2).trans rfl
      have z0 : (w1.alloc (.cells #[.int .i64 n, .slice A1 k1 c1] 24)).frozen? ⟨w.heap.size + 1, 0, none⟩ = false := frozen_of_row _ _ _ _ _ hW2
      have z1 : (w1.alloc (.cells #[.int .i64 n, .slice A1 k1 c1] 24)).frozen? ⟨w.heap.size + 1, 1, none⟩ = false := frozen_of_row _ _ _ _ _ hW2
      have hs2 : SliceIs Enc.edge (w1.alloc (.cells #[.int .i64 n, .slice A1 k1 c1] 24)) (w1.alloc (.cells #[.int .i64 n, .slice A1 k1 c1] 24)).heap.size A1 k1 c1 (cpE (sortE (turnL l))) := hs1.keep (belowA (Below.refl _ _) _)
      have hb2 : Below w.heap.size w (w1.alloc (.cells #[.int .i64 n, .slice A1 k1 c1] 24)) := (HBw.out.trans (hb1.mono HBw.out.size)).alloc (by have := HBw.out.size; omega) _
      have hne : ∀ b ∈ blkOf A1, b ≠ w.heap.size + 1 := fun b hb => by have := ha1 b hb; omega
      clear hs1 hb1 ha1 hW1 d0 d1 HB HBw HN
      go_wp2_with fail
      generalize w1.alloc (.cells #[.int .i64 n, .slice A1 k1 c1] 24) = w2 at *
      have HE : Hid (P (.returned (graphV n A1 k1 c1)) ((w2.setCell ⟨w.heap.size + 1, 0, none⟩ (.int .i64 n)).setCell ⟨w.heap.size + 1, 1, none⟩ (.slice A1 k1 c1))) := by
        show P _ _
        rw [HP.out]
        refine ⟨A1, k1, c1, rfl, ?_, (hb2.setCell (show w.heap.size ≤ w.heap.size + 1 by omega) _).setCell (show w.heap.size ≤ w.heap.size + 1 by omega) _⟩
        have h1 := (hs2.set_other (o := 0) (val := .int .i64 n) hne).set_other (o := 1) (val := .slice A1 k1 c1) hne
        simpa using h1
      have g0 : ((w2.setCell ⟨w.heap.size + 1, 0, none⟩ (.int .i64 n)).setCell ⟨w.heap.size + 1, 1, none⟩ (.slice A1 k1 c1)).cell? ⟨w.heap.size + 1, 0, none⟩ = some (.int .i64 n) := by
        rw [World.cell?_setCell_other _ _ _ _ (by simp)]; exact World.cell?_setCell_same _ _ _ f0
      have g1 : ((w2.setCell ⟨w.heap.size + 1, 0, none⟩ (.int .i64 n)).setCell ⟨w.heap.size + 1, 1, none⟩ (.slice A1 k1 c1)).cell? ⟨w.heap.size + 1, 1, none⟩ = some (.slice A1 k1 c1) :=
        World.cell?_setCell_same _ _ _ ((World.cell?_setCell_other _ _ _ _ (by simp)).trans f1)
      refine bodyPost_ret (v := .agg #[.int .i64 n, .slice A1 k1 c1]) ?_ rfl HE.out
      simp [results, Try.results23, go_sem, g0, g1]
end Go.Proofs.Ytdbpbchhkdconaa

/- A right graph turned: the plain law. -/
namespace Go.Proofs.Ytdbpbchhkdconaa

theorem right_next {n : Int} {l : List GEdge} (hr : rightG n l = true) {j : Nat} {p x : GEdge} (hp : l[j]? = some p) (hx : l[j + 1]? = some x) : lessE p x = true := by
  simp only [rightG, Bool.and_eq_true, List.all_eq_true, List.mem_range] at hr
  have h := hr.2 (j + 1) (List.getElem?_eq_some_iff.1 hx).1
  unfold okE at h
  rw [hx] at h
  simp only [hp, Bool.and_eq_true] at h
  exact h.2
theorem right_less {n : Int} {l : List GEdge} (hr : rightG n l = true) {i : Nat} {p : GEdge} (hp : l[i]? = some p) : ∀ (d : Nat) {x : GEdge}, l[i + 1 + d]? = some x → lessE p x = true
  | 0, _, hx => right_next hr hp hx
  | d + 1, x, hx => by
    have hlt := (List.getElem?_eq_some_iff.1 hx).1
    have hy : l[i + 1 + d]? = some (l[i + 1 + d]'(by omega)) := List.getElem?_eq_getElem _
    exact lessE_trans (right_less hr hp d hy) (right_next hr hy hx)
theorem right_nodup {n : Int} {l : List GEdge} (hr : rightG n l = true) : l.Nodup := by
  unfold List.Nodup
  rw [List.pairwise_iff_getElem]
  intro i j hi hj hij e
  have h1 := right_less hr (List.getElem?_eq_getElem hi) (j - i - 1) (x := l[j]) (by rw [show i + 1 + (j - i - 1) = j by omega]; exact List.getElem?_eq_getElem hj)
  rw [e, lessE_irr] at h1
  cases h1
theorem turnE_inj {x y : GEdge} (h : turnE x = turnE y) : x = y := by
  cases x; cases y; simp [turnE] at h ⊢; exact ⟨h.2.1, h.1, h.2.2⟩
theorem turn_nodup : ∀ {l : List GEdge}, l.Nodup → (turnL l).Nodup
  | [], _ => List.nodup_nil
  | x :: l, h => by
    rw [List.nodup_cons] at h
    show (turnE x :: turnL l).Nodup
    rw [List.nodup_cons]
    refine ⟨fun hm => ?_, turn_nodup h.2⟩
    obtain ⟨y, hy, e⟩ := List.mem_map.1 hm
    exact h.1 (by rw [← turnE_inj e]; exact hy)
theorem sortE_perm (L : List GEdge) : (sortE L).Perm L := List.mergeSort_perm _ _
theorem sortE_sorted (L : List GEdge) : (sortE L).Pairwise (fun x y => (!lessE y x) = true) := by
  unfold sortE
  apply List.pairwise_mergeSort
  · intro a b c h1 h2
    simp only [Bool.not_eq_true'] at h1 h2 ⊢
    rw [Bool.eq_false_iff]
    intro h3
    cases hab : lessE a b with
    | true => rw [lessE_trans h3 hab] at h2; cases h2
    | false =>
      have := lessE_total hab h1
      subst this
      rw [h3] at h2; cases h2
  · intro a b
    cases h1 : lessE a b with
    | false => simp
    | true =>
      cases h2 : lessE b a with
      | false => simp
      | true => have := lessE_trans h1 h2; rw [lessE_irr] at this; cases this
theorem cpE_nodup {L : List GEdge} (h : L.Nodup) : cpE L = L := by
  have := cpE_parted (L := L) (k := L.length) (Nat.le_refl _) (fun i x y hi hx hy e => by
    unfold List.Nodup at h
    rw [List.pairwise_iff_getElem] at h
    have h1 := (List.getElem?_eq_some_iff.1 hx)
    have h2 := (List.getElem?_eq_some_iff.1 hy)
    obtain ⟨a1, b1⟩ := h1
    obtain ⟨a2, b2⟩ := h2
    exact h i (i + 1) a2 a1 (by omega) (by rw [b1, b2]; exact e))
  rw [List.take_length] at this
  exact this
theorem turned_right {n : Int} {l : List GEdge} (hr : rightG n l = true) (hw : ∀ e ∈ l, withinE e n = true) : rightG n (sortE (turnL l)) = true := by
  have h0 := hr
  simp only [rightG, Bool.and_eq_true, decide_eq_true_eq] at h0
  have hnd : (sortE (turnL l)).Nodup := (sortE_perm _).nodup_iff.2 (turn_nodup (right_nodup hr))
  have hs := sortE_sorted (turnL l)
  have hin : ∀ e ∈ sortE (turnL l), withinE e n = true := fun e he => turn_within hw e ((sortE_perm _).mem_iff.1 he)
  generalize sortE (turnL l) = L at *
  refine rightG_all h0.1.1 h0.1.2 fun k hk => ?_
  unfold List.Nodup at hnd
  rw [List.pairwise_iff_getElem] at hs hnd
  unfold okE
  rw [List.getElem?_eq_getElem hk]
  simp only [Bool.and_eq_true]
  refine ⟨hin _ (List.getElem_mem hk), ?_⟩
  cases k with
  | zero => rfl
  | succ j =>
    have hj : j < L.length := by omega
    simp only [List.getElem?_eq_getElem hj]
    have h1 := hs j (j + 1) hj hk (by omega)
    have h2 := hnd j (j + 1) hj hk (by omega)
    simp only [Bool.not_eq_true'] at h1
    cases h3 : lessE L[j] L[j + 1] with
    | true => rfl
    | false => exact absurd (lessE_total h3 h1) h2
theorem turned_has {l : List GEdge} (x y : Nat) : hasN (sortE (turnL l)) x y = hasN l y x := by
  unfold hasN hasL
  rw [Bool.eq_iff_iff, List.any_eq_true, List.any_eq_true]
  constructor
  · rintro ⟨e, he, h⟩
    obtain ⟨z, hz, rfl⟩ := List.mem_map.1 ((sortE_perm _).mem_iff.1 he)
    simp only [turnE, Bool.and_eq_true] at h
    exact ⟨z, hz, by simp only [Bool.and_eq_true]; exact ⟨h.2, h.1⟩⟩
  · rintro ⟨z, hz, h⟩
    simp only [Bool.and_eq_true] at h
    exact ⟨turnE z, (sortE_perm _).mem_iff.2 (List.mem_map.2 ⟨z, hz, rfl⟩), by simp only [turnE, Bool.and_eq_true]; exact ⟨h.2, h.1⟩⟩
theorem turned_tog {N : Nat} {l : List GEdge} (hw : ∀ e ∈ l, withinE e (N : Int) = true) (a b : Nat) : togN N (hasN (sortE (turnL l))) a b = togN N (hasN l) a b :=
  tog_turn (fun _ _ h => hasN_in hw h) (fun x y => turned_has x y) a b
theorem tog_symm (N : Nat) (has : Nat → Nat → Bool) (a b : Nat) : togN N has a b = togN N has b a := by
  unfold togN
  rw [Bool.and_comm (decide (a < N)), Bool.and_comm (decide (0 < farN N has a b)), show decide (a = b) = decide (b = a) from by rw [Bool.eq_iff_iff]; simp [eq_comm]]
theorem turned_ins {N : Nat} {l : List GEdge} (hw : ∀ e ∈ l, withinE e (N : Int) = true) : (insL N (sortE (turnL l))).length = (insL N l).length := by
  unfold insL
  have e1 : (sortE (turnL l)).filter (fun e => togN N (hasN (sortE (turnL l))) e.a.toNat e.b.toNat) = (sortE (turnL l)).filter (fun e => togN N (hasN l) e.a.toNat e.b.toNat) := List.filter_congr (fun e _ => turned_tog hw _ _)
  rw [e1]
  rw [((sortE_perm (turnL l)).filter _).length_eq]
  unfold turnL
  rw [List.filter_map, List.length_map]
  refine congrArg List.length (List.filter_congr fun e _ => ?_)
  exact tog_symm _ _ _ _
theorem turned_pl {N : Nat} {l : List GEdge} (hw : ∀ e ∈ l, withinE e (N : Int) = true) {a b : Nat} (ha : a < N) (hb : b < N) : plN N (sortE (turnL l)) a = plN N (sortE (turnL l)) b ↔ plN N l a = plN N l b := by
  have hw' : ∀ e ∈ sortE (turnL l), withinE e (N : Int) = true := fun e he => turn_within hw e ((sortE_perm _).mem_iff.1 he)
  rw [plN_tog hw' ha hb, plN_tog hw ha hb, turned_tog hw]
end Go.Proofs.Ytdbpbchhkdconaa

/- SccTurned: the walk. -/
namespace Go.Proofs.Ytdbpbchhkdconaa
open Go.RowKit

theorem turned_pack (N : Nat) (A : Option Addr) (m c : Nat) (l : List GEdge) (hm : m ≤ 10000) (hl : l.length = m) (hr : rightG (N : Int) l = true) :
    ∃ L : List GEdge, rightG (N : Int) L = true ∧ L.length ≤ 10000 ∧ (insL N L).length = (insL N l).length ∧ (∀ a b, a < N → b < N → (plN N L a = plN N L b ↔ plN N l a = plN N l b)) ∧
      ∀ W, SliceIs Enc.edge W W.heap.size A m c l → Calls Try.prog 23 #[graphV (N : Int) A m c] W (TurnPost (N : Int) L W) := by
  have hw := right_in hr
  have e : cpE (sortE (turnL l)) = sortE (turnL l) := cpE_nodup ((sortE_perm _).nodup_iff.2 (turn_nodup (right_nodup hr)))
  refine ⟨sortE (turnL l), turned_right hr hw, ?_, turned_ins hw, fun a b ha hb => turned_pl hw ha hb, fun W hW => ?_⟩
  · rw [(sortE_perm _).length_eq]; unfold turnL; rw [List.length_map]; omega
  · have := turned_any (N : Int) A m c l W hW hm hr
    rw [e] at this
    exact this

set_option maxRecDepth 100000 in
set_option maxHeartbeats 8000000 in
theorem sccTurned_walk (n : Int) (A : Option Addr) (m c : Nat) (l : List GEdge) (w : World) (h : SliceIs Enc.edge w w.heap.size A m c l) :
    Calls Try.prog 6 #[graphV n A m c] w (RetBool true w) := by
  have mixed : Try.prog.follows .mixedOrders = true := by kernel_rfl
  obtain ⟨hb0, c0, c1⟩ := boxG n A m c w
  have hg0 : (w.alloc (.cells #[.int .i64 n, .slice A m c] 24)).heap[w.heap.size]? = some (.cells #[.int .i64 n, .slice A m c] 24 (0, 0)) := heapNew rfl
  have HA := Lib.hid (alive11_any (w.alloc (.cells #[.int .i64 n, .slice A m c] 24)))
  have HB0 := Lib.hid hb0
  have HG0 := Lib.hid hg0
  have HS := Lib.hid (fun (W : World) (hW : Below w.heap.size w W) => h.mono hW.size hW.block)
  have Hlen := Lib.hid h.1
  have hmb := h.bound
  clear h hb0 hg0
  go_enter Try.func6, Try.ntmps6
  go_wp2_with fail
  refine HA.out.mono ?_
  rintro e w1 ⟨rfl, hb1⟩
  have HB1 : Hid (Below w.heap.size w w1) := HB0.out.trans (hb1.mono HB0.out.size)
  have HG1 : Hid (w1.heap[w.heap.size]? = some (.cells #[.int .i64 n, .slice A m c] 24 (0, 0))) := (hb1.block _ (by simp)).trans HG0.out
  have d0 : w1.cell? ⟨w.heap.size, 0, none⟩ = some (.int .i64 n) := below_cell hb1 c0
  have d1 : w1.cell? ⟨w.heap.size, 1, none⟩ = some (.slice A m c) := below_cell hb1 c1
  clear hb1 c0 c1 HB0 HG0 HA
  by_cases hm200 : 200 < m
  · have i1 : (200 : Int) < (m : Int) := by omega
    go_wp2_with fail
    go_ret
    exact ⟨rfl, HB1.out⟩
  have i1 : ¬ (200 : Int) < (m : Int) := by omega
  have HR := Lib.hid (right_any n A m c l w1 (HS.out w1 HB1.out))
  cases hrg : rightG n l with
  | false =>
    rw [hrg] at HR
    clear hrg
    go_wp2_with fail
    refine HR.out.mono ?_
    rintro e w2 ⟨rfl, hb2⟩
    have HB2 : Hid (Below w.heap.size w w2) := HB1.out.trans (hb2.mono HB1.out.size)
    clear hb2
    go_wp2_with fail
    go_ret
    exact ⟨rfl, HB2.out⟩
  | true =>
  rw [hrg] at HR
  obtain ⟨N, rfl⟩ : ∃ N : Nat, n = (N : Int) := by
    have := hrg
    simp only [rightG, Bool.and_eq_true, decide_eq_true_eq] at this
    exact ⟨n.toNat, by omega⟩
  have hN : N ≤ 32 := by
    have := hrg
    simp only [rightG, Bool.and_eq_true, decide_eq_true_eq] at this
    omega
  have hm10 : m ≤ 10000 := by omega
  obtain ⟨L, hrL, hLl, hLi, hLp, hTu⟩ := turned_pack N A m c l hm10 Hlen.out hrg
  have HHr := Lib.hid hrg
  have HLr := Lib.hid hrL
  have HLi := Lib.hid hLi
  have HLp := Lib.hid hLp
  have HTu := Lib.hid hTu
  clear hrg hrL hLi hLp hTu
  go_wp2_with fail
  refine HR.out.mono ?_
  rintro e w2 ⟨rfl, hb2⟩
  have HB2 : Hid (Below w.heap.size w w2) := HB1.out.trans (hb2.mono HB1.out.size)
  have hgl := (Array.getElem?_eq_some_iff.1 HG1.out).1
  have HG2 : Hid (w2.heap[w.heap.size]? = some (.cells #[.int .i64 (N : Int), .slice A m c] 24 (0, 0))) := (hb2.block _ hgl).trans HG1.out
  have hgl2 := (Array.getElem?_eq_some_iff.1 HG2.out).1
  have HK : Hid (∀ W, Below w2.heap.size w2 W → W.cell? ⟨w.heap.size, 0, none⟩ = some (.int .i64 (N : Int)) ∧ W.cell? ⟨w.heap.size, 1, none⟩ = some (.slice A m c)) := fun W hW => by
    have r1 := (hW.block w.heap.size hgl2).trans HG2.out
    exact ⟨(cell_of_row _ _ 0 _ _ _ r1).trans rfl, (cell_of_row _ _ 1 _ _ _ r1).trans rfl⟩
  have k0 := (HK.out w2 (Below.refl _ _)).1
  have k1 := (HK.out w2 (Below.refl _ _)).2
  have HSs := Lib.hid (fun (W : World) (hW : Below w2.heap.size w2 W) => HS.out W (HB2.out.trans (hW.mono HB2.out.size)))
  have HP1 := Lib.hid (fun (W : World) (hW : Below w2.heap.size w2 W) => places_any N hN A m c l W (HSs.out W hW) hm10 HHr.out)
  have HI1 := Lib.hid (fun (W : World) (hW : Below w2.heap.size w2 W) => inside_any N hN A m c l W (HSs.out W hW) hm10 HHr.out)
  have HT := Lib.hid (fun (W : World) (hW : Below w2.heap.size w2 W) => HTu.out W (HSs.out W hW))
  have HP2 := Lib.hid (fun (W : World) (A2 : Option Addr) (k c2 : Nat) (hs : SliceIs Enc.edge W W.heap.size A2 k c2 L) => places_any N hN A2 k c2 L W hs (by have := hs.1; omega) HLr.out)
  have HI2 := Lib.hid (fun (W : World) (A2 : Option Addr) (k c2 : Nat) (hs : SliceIs Enc.edge W W.heap.size A2 k c2 L) => inside_any N hN A2 k c2 L W hs (by have := hs.1; omega) HLr.out)
  have hq2 : Below w2.heap.size w2 w2 := Below.refl _ _
  clear hb2 d0 d1 HR HG1 HG2 HS hgl hgl2 HTu
  go_wp2_with fail
  go_region_held3 (fun W => W.cell? ⟨w.heap.size, 0, none⟩ = some (.int .i64 (N : Int)) ∧ W.cell? ⟨w.heap.size, 1, none⟩ = some (.slice A m c))
    (first
      | (refine HK.out _ ?_; (repeat (first | with_reducible exact Below.refl _ _ | with_reducible assumption | with_reducible refine Below.drew ?_)); done)
      | go_keep)
    ((first
      | (go_at_call 10
         fail_if_success have := hs4
         refine (HP1.out _ (Below.drew hq2)).mono ?_
         rintro e3 w3 ⟨R1, rfl, hR1, hrow1, hb3⟩
         have hq3 : Below w2.heap.size w2 w3 := (Below.drew hq2).trans (hb3.mono (by simp)))
      | (go_at_call 23
         refine (HT.out _ hq3).mono ?_
         rintro e4 w4 ⟨A2, k2, c2, rfl, hs4, hb4⟩
         have hq4 : Below w2.heap.size w2 w4 := hq3.trans (hb4.mono hq3.size))
      | (go_at_call 10
         refine (HP2.out _ _ _ _ hs4).mono ?_
         rintro e5 w5 ⟨R2, rfl, hR2, hrow2, hb5⟩
         have hq5 : Below w2.heap.size w2 w5 := hq4.trans (hb5.mono hq4.size))))
  have hr15 : R1 < w3.heap.size := (Array.getElem?_eq_some_iff.1 hrow1).1
  have HRow1 : Hid (w5.heap[R1]? = some (.cells (rowF (plN N l) N) 3 (0, 0))) := (hb5.block R1 (by have := hb4.size; omega)).trans ((hb4.block R1 hr15).trans hrow1)
  have HRow2 : Hid (w5.heap[R2]? = some (.cells (rowF (plN N L) N) 3 (0, 0))) := hrow2
  have HQ5 := Lib.hid hq5
  have l1 := (Array.getElem?_eq_some_iff.1 HRow1.out).1
  have l2 := (Array.getElem?_eq_some_iff.1 HRow2.out).1
  generalize plN N l = p1 at *
  generalize plN N L = p2 at *
  have zN : ((N : Int) != (N : Int)) = false := by simp
  have k5 := (HK.out w5 hq5).1
  clear hq2 hq3 hq4 hq5 hb3 hb4 hb5 hs4 hrow1 hrow2 hr15 k0 k1 hR1 hR2
  go_wp2_with fail
  clear zN k5
  go_loopw [37] (fun i wr => ∃ k : Nat, k ≤ N ∧ i = .int .i64 (k : Int) ∧ Hid (Below w5.heap.size w5 wr)) (fun i _ => N - (intOf i).toNat)
  case atStart => exact ⟨0, by omega, rfl, Below.refl _ _⟩
  case round =>
    obtain ⟨k, hk, rfl, HB⟩ := hrel
    have i0 : (0 : Int) ≤ (k : Int) := by omega
    by_cases hlt : k < N
    · have i2 : (k : Int) < (N : Int) := by omega
      go_wp2_with fail
      go_loopw [42] (fun i wr => ∃ j : Nat, j ≤ N ∧ i = .int .i64 (j : Int) ∧ Hid (Below w5.heap.size w5 wr)) (fun i _ => N - (intOf i).toNat)
      case atStart => exact ⟨0, by omega, rfl, HB⟩
      case round =>
        obtain ⟨j, hj, rfl, HC⟩ := hrel
        have j0 : (0 : Int) ≤ (j : Int) := by omega
        by_cases hltj : j < N
        · have j2 : (j : Int) < (N : Int) := by omega
          have r1 := (HC.out.block R1 l1).trans HRow1.out
          have r2 := (HC.out.block R2 l2).trans HRow2.out
          have x0 : wr.cell? ⟨R1, k, none⟩ = some (.int .i64 (p1 k : Int)) := by rw [cell_of_row _ _ _ _ _ _ r1, rowF_get hlt]
          have x1 : wr.cell? ⟨R1, j, none⟩ = some (.int .i64 (p1 j : Int)) := by rw [cell_of_row _ _ _ _ _ _ r1, rowF_get hltj]
          have y0 : wr.cell? ⟨R2, k, none⟩ = some (.int .i64 (p2 k : Int)) := by rw [cell_of_row _ _ _ _ _ _ r2, rowF_get hlt]
          have y1 : wr.cell? ⟨R2, j, none⟩ = some (.int .i64 (p2 j : Int)) := by rw [cell_of_row _ _ _ _ _ _ r2, rowF_get hltj]
          have hpp := HLp.out k j hlt hltj
          have HC2 : Hid (Below w5.heap.size w5 wr.drew) := Below.drew HC.out
          obtain ⟨b, hb1, hb2⟩ : ∃ b : Bool, ((p1 k : Int) == (p1 j : Int)) = b ∧ ((p2 k : Int) == (p2 j : Int)) = b := by
            refine ⟨_, rfl, ?_⟩
            rw [Bool.eq_iff_iff]
            simp only [beq_iff_eq]
            constructor
            · intro h; have := hpp.1 (by omega); omega
            · intro h; have := hpp.2 (by omega); omega
          generalize (p1 k : Int) = v1 at *
          generalize (p1 j : Int) = v2 at *
          generalize (p2 k : Int) = v3 at *
          generalize (p2 j : Int) = v4 at *
          have zb : (b != b) = false := by simp
          clear r1 r2 hpp
          go_wp2_with fail
          refine drawnS mixed _ (fun W => W = wr.drew) rfl (by kernel_rfl) rfl rfl ?_
          iterate 19
            apply seqS_op
            · rintro W rfl
              go_wp2_with fail
              exact ⟨rfl, rfl, fun d hd => by cases hd; simp only [List.getElem?_toArray, List.getElem?_cons_succ, List.getElem?_cons_zero]; rfl, rfl⟩
            simp only [Act.put, List.setIfInBounds_toArray, List.set_cons_succ, List.set_cons_zero]
          apply seqS_end
          rintro W rfl
          clear x0 x1 y0 y1
          go_wp2_with fail
          go_roundw
          case rel => exact ⟨j + 1, by omega, by go_num, HC2⟩
          case measure => simp [intOf]; omega
        · have j2 : ¬ (j : Int) < (N : Int) := by omega
          go_wp2_with fail
          go_roundw
          case rel => exact ⟨k + 1, by omega, by go_num, HC⟩
          case measure => simp [intOf]; omega
    · have i2 : ¬ (k : Int) < (N : Int) := by omega
      have hqr : Below w2.heap.size w2 wr := HQ5.out.trans (HB.out.mono HQ5.out.size)
      have HQr := Lib.hid hqr
      have k0 := (HK.out wr hqr).1
      have k1 := (HK.out wr hqr).2
      clear hlt
      go_wp2_with fail
      go_region_held3 (fun W => W.cell? ⟨w.heap.size, 0, none⟩ = some (.int .i64 (N : Int)) ∧ W.cell? ⟨w.heap.size, 1, none⟩ = some (.slice A m c))
        (first
          | (refine HK.out _ ?_; (repeat (first | with_reducible exact Below.refl _ _ | with_reducible assumption | with_reducible refine Below.drew ?_)); done)
          | go_keep)
        ((first
          | (go_at_call 15
             fail_if_success have := hs7
             refine (HI1.out _ (Below.drew hqr)).mono ?_
             rintro e6 w6 ⟨A6, k6, c6, rfl, hs6, hb6⟩
             have hq6 : Below w2.heap.size w2 w6 := (Below.drew hqr).trans (hb6.mono (by simpa using hqr.size)))
          | (go_at_call 23
             refine (HT.out _ hq6).mono ?_
             rintro e7 w7 ⟨A7, k7, c7, rfl, hs7, hb7⟩
             have hq7 : Below w2.heap.size w2 w7 := hq6.trans (hb7.mono hq6.size))
          | (go_at_call 15
             refine (HI2.out _ _ _ _ hs7).mono ?_
             rintro e8 w8 ⟨A8, k8, c8, rfl, hs8, hb8⟩
             have hq8 : Below w2.heap.size w2 w8 := hq7.trans (hb8.mono hq7.size))))
      have hk6 : k6 = k8 := by
        have h1 := hs6.1
        have h2 := hs8.1
        have h3 := HLi.out
        omega
      subst hk6
      have HE : Hid (Below w.heap.size w w8) := HB2.out.trans (hq8.mono HB2.out.size)
      clear hq6 hq7 hq8 hs6 hs7 hs8 hb6 hb7 hb8 k0 k1 hqr
      go_wp2_with fail
      go_ret
      exact ⟨by simp, HE.out⟩
end Go.Proofs.Ytdbpbchhkdconaa
