/- My own texts DgB5, DgB6, DgB7, as far as this claim needs them. -/
import Derived.Test.YtgphngjniplonaaGreatDoorZp28
import Derived.Test.YtgphngjniplonaaGreatDoorZpd2
set_option linter.unusedVariables false
set_option linter.unusedSimpArgs false
set_option maxRecDepth 1000000
set_option maxHeartbeats 16000000
namespace Go.Proofs.YtgphngjniplonaaGreatDoor
open Go.RowKit
def hasN (l : List GEdge) (a b : Nat) : Bool := hasL l (a : Int) (b : Int)
section
variable {N : Nat} {has : Nat → Nat → Bool} {a b : Nat}
end
end Go.Proofs.YtgphngjniplonaaGreatDoor
namespace Go.Proofs.YtgphngjniplonaaGreatDoor
open Go.RowKit
theorem okE_within {n : Int} {l : List GEdge} {k : Nat} {x : GEdge} (h : okE n l k = true) (hx : l[k]? = some x) : withinE x n = true := by
  unfold okE at h
  rw [hx] at h
  simp only [Bool.and_eq_true] at h
  exact h.1
theorem rightG_mem {n : Int} {l : List GEdge} (h : rightG n l = true) {x : GEdge} (hx : x ∈ l) : withinE x n = true := by
  simp only [rightG, Bool.and_eq_true, List.all_eq_true, List.mem_range] at h
  obtain ⟨i, hi⟩ := List.mem_iff_getElem?.1 hx
  exact okE_within (h.2 i (List.getElem?_eq_some_iff.1 hi).1) hi
end Go.Proofs.YtgphngjniplonaaGreatDoor
namespace Go.Proofs.YtgphngjniplonaaGreatDoor
open Go.RowKit Go.Sort
def natC (n : Nat) : Value := .int .i64 (n : Int)
theorem sortN_any (B b n c : Nat) (l : List Nat) (w : World) (h : w.ownsRow B 3 1 (.slice (some ⟨b, 0, none⟩) n c) n (l.map natC)) (hn : n ≤ 1000000) : Calls Tryz.prog 49 #[.slice (some ⟨b, 0, none⟩) n c] w
    (fun e w' => e = .returned (.tuple #[]) ∧ ∃ q : List Nat, q.Perm l ∧ q.Pairwise (· ≤ ·) ∧ w'.ownsRow B 3 1 (.slice (some ⟨b, 0, none⟩) n c) n (q.map natC) ∧ Out [b] w w') := by
  have hl : (l.map Int.ofNat).length = n := by have := h.1; simpa using this
  have hcs : (l.map Int.ofNat).toArray.toList.map (Value.int .i64) = l.map natC := by rw [List.toList_toArray, List.map_map]; rfl
  have hH := own_holds (enc := Value.int .i64) (d := (l.map Int.ofNat).toArray) h hcs
  have hb : b < w.heap.size := (own_blk h rfl).2
  have hS := Tryz.slices_Sort_int b 0 c (l.map Int.ofNat) w hH hb (by omega)
  rw [hl] at hS
  refine hS.mono ?_
  rintro e w' ⟨rfl, k, os, rfl⟩
  refine ⟨rfl, ((l.map Int.ofNat).mergeSort fun x y => decide (x ≤ y)).map Int.toNat, ?_, ?_, ?_⟩
  · have h1 := (List.mergeSort_perm (l.map Int.ofNat) (fun x y => decide (x ≤ y))).map Int.toNat
    rw [List.map_map] at h1
    have e1 : l.map (Int.toNat ∘ Int.ofNat) = l := by
      conv => rhs; rw [← List.map_id l]
      exact List.map_congr_left (fun x _ => by simp)
    rw [e1] at h1
    exact h1
  · have h2 := List.pairwise_mergeSort (le := fun (x y : Int) => decide (x ≤ y)) (by intro a b c h1 h2; simp at *; omega) (by intro a b; simp; omega) (l.map Int.ofNat)
    rw [List.pairwise_map]
    exact h2.imp (fun hh => by simp at hh; omega)
  · have hsz : ((l.map Int.ofNat).mergeSort fun x y => decide (x ≤ y)).toArray.size = n := by simp [List.length_mergeSort]; have := h.1; simpa using this
    have h3 := own_sorted (enc := Value.int .i64) (d := ((l.map Int.ofNat).mergeSort fun x y => decide (x ≤ y)).toArray) (k := k) (os := os) h hsz
    have e2 : (((l.map Int.ofNat).mergeSort fun x y => decide (x ≤ y)).map Int.toNat).map natC = ((l.map Int.ofNat).mergeSort fun x y => decide (x ≤ y)).toArray.toList.map (Value.int .i64) := by
      rw [List.map_map, List.toList_toArray]
      apply List.map_congr_left
      intro x hx
      obtain ⟨y, -, rfl⟩ := List.mem_map.1 ((List.mergeSort_perm _ _).mem_iff.1 hx)
      rfl
    rw [e2]
    exact h3
end Go.Proofs.YtgphngjniplonaaGreatDoor
namespace Go.Proofs.YtgphngjniplonaaGreatDoor
open Go.RowKit
theorem right_in {N : Nat} {l : List GEdge} (hr : rightG (N : Int) l = true) : ∀ e ∈ l, withinE e (N : Int) = true := fun _ he => rightG_mem hr he
end Go.Proofs.YtgphngjniplonaaGreatDoor
namespace Go.Proofs.YtgphngjniplonaaGreatDoor
open Go.RowKit
theorem boxG (n : Int) (A : Option Addr) (m c : Nat) (w : World) : Below w.heap.size w (w.alloc (.cells #[.int .i64 n, .slice A m c] 31)) ∧ (w.alloc (.cells #[.int .i64 n, .slice A m c] 31)).cell? ⟨w.heap.size, 0, none⟩ = some (.int .i64 n) ∧ (w.alloc (.cells #[.int .i64 n, .slice A m c] 31)).cell? ⟨w.heap.size, 1, none⟩ = some (.slice A m c) :=
  ⟨belowA (Below.refl _ _) _, (cell_of_row _ _ 0 _ _ _ (heapNew (w := w) rfl)).trans rfl, (cell_of_row _ _ 1 _ _ _ (heapNew (w := w) rfl)).trans rfl⟩
end Go.Proofs.YtgphngjniplonaaGreatDoor
namespace Go.Proofs.YtgphngjniplonaaGreatDoor
open Go.RowKit
end Go.Proofs.YtgphngjniplonaaGreatDoor
namespace Go.Proofs.YtgphngjniplonaaGreatDoor
open Go.RowKit
theorem info_redge : (Tryz.prog.info? 49).map (fun i => (i.zero, i.size, i.bytes)) = some (some (.agg #[.int .i64 0, .int .i64 0, .bool false]), 3, 24) := by kernel_rfl
end Go.Proofs.YtgphngjniplonaaGreatDoor

namespace Go.Proofs.YtgphngjniplonaaGreatDoor
open Go.RowKit
def largeB (n : Int) (m : Nat) : Bool := decide (60 < m) || (decide (12 < n) && decide (n ≤ 32))
theorem large_any (n : Int) (A : Option Addr) (m c : Nat) (w : World) : Calls Tryz.prog 22 #[graphV n A m c] w (RetBool (largeB n m) w) := by
  obtain ⟨hb0, c0, c1⟩ := boxG n A m c w
  have HB0 := Lib.hid hb0
  have hyu : undef = Value.tuple #[] := rfl
  clear hb0
  by_cases h1 : 60 < m
  · have i1 : (60 : Int) < (m : Int) := by omega
    rw [show largeB n m = true by simp [largeB, h1]]
    go_enter Tryz.func22, Tryz.ntmps22
    go_wp2_with fail
    go_ret
    exact ⟨rfl, HB0.out⟩
  · have i1 : ¬ (60 : Int) < (m : Int) := by omega
    by_cases h2 : (12 : Int) < n
    · by_cases h3 : n ≤ 32
      · rw [show largeB n m = true by simp [largeB, h2, h3]]
        go_enter Tryz.func22, Tryz.ntmps22
        go_wp2_with fail
        go_ret
        exact ⟨rfl, HB0.out⟩
      · rw [show largeB n m = false by simp [largeB, h1, h3]]
        go_enter Tryz.func22, Tryz.ntmps22
        go_wp2_with fail
        go_ret
        exact ⟨rfl, HB0.out⟩
    · rw [show largeB n m = false by simp [largeB, h1, h2]]
      go_enter Tryz.func22, Tryz.ntmps22
      go_wp2_with fail
      go_ret
      exact ⟨rfl, HB0.out⟩
def DocPost (n : Int) (l : List GEdge) (w : World) (e : Ending) (w' : World) : Prop :=
  ∃ A c, e = .returned (.agg #[.int .i64 n, .slice A l.length c]) ∧ SliceIs Enc.edge w' w'.heap.size A l.length c l ∧ Below w.heap.size w w'
theorem document_any (n : Int) (A : Option Addr) (m c : Nat) (l : List GEdge) (w : World) (h : SliceIs Enc.edge w w.heap.size A m c l) (hm : m ≤ 10000) : Calls Tryz.prog 13 #[graphV n A m c] w (DocPost n l w) := by
  have HS := Lib.hid h
  have hlen : l.length = m := h.1
  have Hlen := Lib.hid hlen
  obtain ⟨P, HP⟩ : ∃ P : Ending → World → Prop, Hid (P = DocPost n l w) := ⟨_, rfl⟩
  rw [← HP.out]
  have cg0 : ((w.alloc (.cells #[.int .i64 n, .slice A m c] 31)).alloc (.cells #[.int .i64 0, .slice none 0 0] 35)).cell? ⟨w.heap.size, 0, none⟩ = some (.int .i64 n) := cellA ((cell_of_row _ _ 0 _ _ _ (heapNew (w := w) rfl)).trans rfl)
  clear h hlen
  go_enter Tryz.func13, Tryz.ntmps13
  have cg1 : (((w.alloc (.cells #[.int .i64 n, .slice A m c] 31)).alloc (.cells #[.int .i64 0, .slice none 0 0] 35)).alloc (.cells #[.int .i64 n, .slice none 0 0] 35)).cell? ⟨w.heap.size, 1, none⟩ = some (.slice A m c) := cellA (cellA ((cell_of_row _ _ 1 _ _ _ (heapNew (w := w) rfl)).trans rfl))
  go_wp2_with fail
  have hb0 : Below w.heap.size w (((w.alloc (.cells #[.int .i64 n, .slice A m c] 31)).alloc (.cells #[.int .i64 0, .slice none 0 0] 35)).alloc (.cells #[.int .i64 n, .slice none 0 0] 35)) := belowA (belowA (belowA (Below.refl _ _) _) _) _
  have hg2 : (((w.alloc (.cells #[.int .i64 n, .slice A m c] 31)).alloc (.cells #[.int .i64 0, .slice none 0 0] 35)).alloc (.cells #[.int .i64 n, .slice none 0 0] 35)).heap[w.heap.size + 1 + 1]? = some (.cells #[.int .i64 n, .slice none 0 0] 35 (0, 0)) := heapNew (by simp)
  have hg1 : (((w.alloc (.cells #[.int .i64 n, .slice A m c] 31)).alloc (.cells #[.int .i64 0, .slice none 0 0] 35)).alloc (.cells #[.int .i64 n, .slice none 0 0] 35)).heap[w.heap.size + 1]? = some (.cells #[.int .i64 0, .slice none 0 0] 35 (0, 0)) := heapOld (heapNew (by simp))
  generalize ((w.alloc (.cells #[.int .i64 n, .slice A m c] 31)).alloc (.cells #[.int .i64 0, .slice none 0 0] 35)).alloc (.cells #[.int .i64 n, .slice none 0 0] 35) = V at *
  have hlt1 : w.heap.size + 1 < w.heap.size + 1 + 1 := by omega
  have hlt0 : w.heap.size < w.heap.size + 1 := by omega
  generalize w.heap.size + 1 + 1 = r2 at *
  generalize w.heap.size + 1 = r1 at *
  have hV2 := (Array.getElem?_eq_some_iff.1 hg2).1
  have HB0 := Lib.hid hb0
  have HG1 := Lib.hid hg1
  have HG2 := Lib.hid hg2
  clear hb0 hg1 hg2 cg0 cg1
  go_loopw [5, 12] (fun _ i wr => ∃ (k : Nat) (Ao : Option Addr) (co : Nat), k ≤ m ∧ i = .int .i64 (k : Int) ∧ Hid (wr.heap[r2]? = some (.cells #[.int .i64 n, .slice Ao k co] 35 (0, 0))) ∧ Hid (wr.heap[r1]? = some (.cells #[.int .i64 0, .slice none 0 0] 35 (0, 0))) ∧ Hid (RowOf Enc.edge wr V.heap.size 49 (r1 :: r2 :: blkOf Ao) Ao k co (l.take k)) ∧ Hid (Below w.heap.size w wr) ∧ V.heap.size ≤ wr.heap.size) (fun _ i _ => m - (intOf i).toNat)
  case atStart => exact ⟨0, none, 0, by omega, rfl, HG2, HG1, RowOf.nil _, HB0, Nat.le_refl _⟩
  case round =>
    obtain ⟨k, Ao, co, hk, rfl, HR2, HR1, HRo, HB, hz⟩ := hrel
    have i0 : (0 : Int) ≤ (k : Int) := by omega
    by_cases hlt : k < m
    · have i1 : (k : Int) < (m : Int) := by omega
      obtain ⟨b, o, x, rfl, -, hx, x0, x1, x2, hfx⟩ := (HS.out.below HB.out).edge_at hlt
      have hAo : ∀ b ∈ blkOf Ao, V.heap.size ≤ b := fun b hb => (HRo.out.blk hb).1
      have hb1 : Below wr.heap.size wr (wr.alloc (.cells #[.int .i64 x.a, .int .i64 x.b, .bool x.n] 71)) := belowA (Below.refl _ _) _
      have hb2 : Below wr.heap.size wr ((wr.alloc (.cells #[.int .i64 x.a, .int .i64 x.b, .bool x.n] 71)).alloc (.cells #[.int .i64 x.a, .int .i64 x.b, .bool x.n] 49)) := belowA hb1 _
      have e0 : (wr.alloc (.cells #[.int .i64 x.a, .int .i64 x.b, .bool x.n] 71)).cell? ⟨wr.heap.size, 0, none⟩ = some (.int .i64 x.a) := (cell_of_row _ _ 0 _ _ _ (heapNew (w := wr) rfl)).trans rfl
      have e1 : (wr.alloc (.cells #[.int .i64 x.a, .int .i64 x.b, .bool x.n] 71)).cell? ⟨wr.heap.size, 1, none⟩ = some (.int .i64 x.b) := (cell_of_row _ _ 1 _ _ _ (heapNew (w := wr) rfl)).trans rfl
      have e2 : (wr.alloc (.cells #[.int .i64 x.a, .int .i64 x.b, .bool x.n] 71)).cell? ⟨wr.heap.size, 2, none⟩ = some (.bool x.n) := (cell_of_row _ _ 2 _ _ _ (heapNew (w := wr) rfl)).trans rfl
      have e3 : (wr.alloc (.cells #[.int .i64 x.a, .int .i64 x.b, .bool x.n] 71)).cell? ⟨r2, 1, none⟩ = some (.slice Ao k co) := cellA ((cell_of_row _ _ 1 _ _ _ HR2.out).trans rfl)
      have ha := HRo.out.below hb2
      have hok : Enc.edge.ok (sans ((wr.alloc (.cells #[.int .i64 x.a, .int .i64 x.b, .bool x.n] 71)).alloc (.cells #[.int .i64 x.a, .int .i64 x.b, .bool x.n] 49)) (r1 :: r2 :: blkOf Ao)) ((wr.alloc (.cells #[.int .i64 x.a, .int .i64 x.b, .bool x.n] 71)).alloc (.cells #[.int .i64 x.a, .int .i64 x.b, .bool x.n] 49)).heap.size [.int .i64 x.a, .int .i64 x.b, .bool x.n] x := ⟨rfl, hfx⟩
      obtain ⟨A2, c2, w2, u2, q2, o2, p2⟩ := ha.push (P := Tryz.prog) (t := 33) (ty := 33) Tryz.underlying33 info_redge rfl rfl (by decide) _ (wr.heap.size + 1) [.int .i64 x.a, .int .i64 x.b, .bool x.n] (heapNew (by simp)) hok (by intro u hu; simp at hu; rcases hu with rfl | rfl | rfl <;> rfl) (by simp [maxLen]; omega) (by omega) (by simp; omega) (fun b hb => List.mem_cons_of_mem _ (List.mem_cons_of_mem _ hb))
      have U2 := Lib.hid u2
      have hr2l := (Array.getElem?_eq_some_iff.1 HR2.out).1
      have hr2n : r2 ∉ blkOf Ao := fun hh => by have := hAo _ hh; omega
      have hr1n : r1 ∉ blkOf Ao := fun hh => by have := hAo _ hh; omega
      have hrow2 : w2.heap[r2]? = some (.cells #[.int .i64 n, .slice Ao k co] 35 (0, 0)) := (o2.block _ (by simp; omega) hr2n).trans (heapOld (heapOld HR2.out))
      have hrow1 : w2.heap[r1]? = some (.cells #[.int .i64 0, .slice none 0 0] 35 (0, 0)) := (o2.block _ (by simp; omega) hr1n).trans (heapOld (heapOld HR1.out))
      have d1 : w2.cell? ⟨r2, 1, none⟩ = some (.slice Ao k co) := (cell_of_row _ _ 1 _ _ _ hrow2).trans rfl
      have f1 : w2.frozen? ⟨r2, 1, none⟩ = false := frozen_of_row _ _ _ _ _ hrow2
      have hA2 : r2 ∉ blkOf A2 := fun hh => by
        rcases p2 _ hh with h3 | h3
        · exact hr2n h3
        · simp at h3; omega
      have HR2' : Hid ((w2.setCell ⟨r2, 1, none⟩ (.slice A2 (k + 1) c2)).heap[r2]? = some (.cells #[.int .i64 n, .slice A2 (k + 1) c2] 35 (0, 0))) := by
        show _ = _
        rw [set_cell8 hrow2]; rfl
      have HR1' : Hid ((w2.setCell ⟨r2, 1, none⟩ (.slice A2 (k + 1) c2)).heap[r1]? = some (.cells #[.int .i64 0, .slice none 0 0] 35 (0, 0))) := (World.heap_setCells_other' (show r1 ≠ r2 from by omega)).trans hrow1
      have HRo' : Hid (RowOf Enc.edge (w2.setCell ⟨r2, 1, none⟩ (.slice A2 (k + 1) c2)) V.heap.size 49 (r1 :: r2 :: blkOf A2) A2 (k + 1) c2 (l.take (k + 1))) := by
        have h1 := q2 (r1 :: r2 :: blkOf A2) (fun b hb hlt => by
          rcases List.mem_cons.1 hb with hb | hb
          · exact List.mem_cons.2 (.inl hb)
          · rcases List.mem_cons.1 hb with hb | hb
            · exact List.mem_cons_of_mem _ (List.mem_cons.2 (.inl hb))
            · rcases p2 b hb with hh | hh
              · exact List.mem_cons_of_mem _ (List.mem_cons_of_mem _ hh)
              · omega)
        have e : l.take (k + 1) = l.take k ++ [x] := by rw [List.take_add_one, hx.out]; rfl
        show RowOf _ _ _ _ _ _ _ _ _
        rw [e]
        exact h1.out (set_out w2 r2 1 _) (fun b hb hh => by simp at hh; subst hh; exact hA2 hb) (fun b hb _ => by simp at hb; simp [hb]) (fun b hb _ => hb)
      have HB' : Hid (Below w.heap.size w (w2.setCell ⟨r2, 1, none⟩ (.slice A2 (k + 1) c2))) := ((HB.out.trans (hb2.mono HB.out.size)).trans (o2.below (fun b hb => by have := hAo b hb; omega) (by have := HB.out.size; simp; omega))).setCell (show w.heap.size ≤ r2 from by omega) _
      have hz' : V.heap.size ≤ (w2.setCell ⟨r2, 1, none⟩ (.slice A2 (k + 1) c2)).heap.size := by have := o2.size; simp at this ⊢; omega
      clear hx hAo hb1 hb2 ha hok u2 q2 o2 p2 hr2n hr1n hrow2 hrow1 hA2 HR2 HR1 HRo HB hfx
      go_wp2_with (at_builtin; refine wpList_append_run (o := ⟨some 20, _, _, _, _, _⟩) rfl _ _ _ rfl _ _ rfl rfl U2.out ?_)
      go_roundw
      case rel => exact ⟨k + 1, A2, c2, by omega, by go_num, HR2', HR1', HRo', HB', hz'⟩
      case measure => simp [intOf]; omega
    · have i1 : ¬ (k : Int) < (m : Int) := by omega
      obtain rfl : k = m := by omega
      have d0 : wr.cell? ⟨r2, 0, none⟩ = some (.int .i64 n) := (cell_of_row _ _ 0 _ _ _ HR2.out).trans rfl
      have d1 : wr.cell? ⟨r2, 1, none⟩ = some (.slice Ao k co) := (cell_of_row _ _ 1 _ _ _ HR2.out).trans rfl
      have hrow1 := HR1.out
      have hsl := HRo.out.slice (T := [r1]) (by simp [reachN]; omega) (fun b hb hh => by have := (HRo.out.blk hb).1; simp at hh; omega) (fun b hh _ => by simp at hh; simp [hh])
      rw [List.take_of_length_le (by rw [Hlen.out]; omega)] at hsl
      have g1 : wr.cell? ⟨r1, 0, none⟩ = some (.int .i64 0) := (cell_of_row _ _ 0 _ _ _ hrow1).trans rfl
      have g2 : wr.cell? ⟨r1, 1, none⟩ = some (.slice none 0 0) := (cell_of_row _ _ 1 _ _ _ hrow1).trans rfl
      have f1 : ∀ o, wr.frozen? ⟨r1, o, none⟩ = false := fun o => frozen_of_row _ _ _ _ _ hrow1
      have f2 := f1 0
      have f3 := f1 1
      have HE : Hid (P (.returned (.agg #[.int .i64 n, .slice Ao k co])) ((wr.setCell ⟨r1, 0, none⟩ (.int .i64 n)).setCell ⟨r1, 1, none⟩ (.slice Ao k co))) := by
        show P _ _
        rw [HP.out]
        have ho : Out [r1] wr ((wr.setCell ⟨r1, 0, none⟩ (.int .i64 n)).setCell ⟨r1, 1, none⟩ (.slice Ao k co)) := (set_out wr r1 0 _).trans (set_out _ r1 1 _) (fun b hb _ => hb)
        have h9 := (SliceFar.out hsl ho (fun b hb _ => hb) (fun b hb _ => hb) : SliceFar Enc.edge _ [r1] Ao k co l).is
        unfold DocPost
        rw [Hlen.out]
        exact ⟨Ao, co, rfl, h9, HB.out.trans (ho.below (fun b hb => by simp at hb; omega) HB.out.size)⟩
      have hrw : ((wr.setCell ⟨r1, 0, none⟩ (.int .i64 n)).setCell ⟨r1, 1, none⟩ (.slice Ao k co)).heap[r1]? = some (.cells #[.int .i64 n, .slice Ao k co] 35 (0, 0)) := (set_cell8 (set_cell8 hrow1)).trans rfl
      have hx0 : ((wr.setCell ⟨r1, 0, none⟩ (.int .i64 n)).setCell ⟨r1, 1, none⟩ (.slice Ao k co)).cell? ⟨r1, 0, none⟩ = some (.int .i64 n) := (cell_of_row _ _ 0 _ _ _ hrw).trans rfl
      have hx1 : ((wr.setCell ⟨r1, 0, none⟩ (.int .i64 n)).setCell ⟨r1, 1, none⟩ (.slice Ao k co)).cell? ⟨r1, 1, none⟩ = some (.slice Ao k co) := (cell_of_row _ _ 1 _ _ _ hrw).trans rfl
      clear hsl hrow1 f1 hrw HR1 HR2 HRo
      go_wp2_with fail
      refine bodyPost_ret (v := .agg #[.int .i64 n, .slice Ao k co]) ?_ rfl HE.out
      simp [results, Tryz.results13, go_sem, hx0, hx1]
end Go.Proofs.YtgphngjniplonaaGreatDoor
namespace Go.Proofs.YtgphngjniplonaaGreatDoor
open Go.RowKit
def turnE (x : GEdge) : GEdge := ⟨x.b, x.a, x.n⟩
def turnL (l : List GEdge) : List GEdge := l.map turnE
def TurnPost (n : Int) (L : List GEdge) (w : World) (e : Ending) (w' : World) : Prop :=
  ∃ A k c, e = .returned (graphV n A k c) ∧ SliceIs Enc.edge w' w'.heap.size A k c L ∧ Below w.heap.size w w'
theorem turn_within {n : Int} {l : List GEdge} (hw : ∀ e ∈ l, withinE e n = true) : ∀ e ∈ turnL l, withinE e n = true := by
  intro e he
  obtain ⟨x, hx, rfl⟩ := List.mem_map.1 he
  have := hw x hx
  simp only [withinE, Bool.and_eq_true, turnE] at this ⊢
  exact ⟨⟨⟨this.1.2, this.2⟩, this.1.1.1⟩, this.1.1.2⟩
theorem turned_any (n : Int) (A : Option Addr) (m c : Nat) (l : List GEdge) (w : World) (h : SliceIs Enc.edge w w.heap.size A m c l) (hm : m ≤ 10000) (hr : rightG n l = true) :
    Calls Tryz.prog 17 #[graphV n A m c] w (TurnPost n (cpE (sortE (turnL l))) w) := by
  have hlen : l.length = m := h.1
  have Hlen := Lib.hid hlen
  have hn : 0 ≤ n ∧ n ≤ 32 := by
    have := hr
    simp only [rightG, Bool.and_eq_true, decide_eq_true_eq] at this
    exact ⟨this.1.1, this.1.2⟩
  have Hw : Hid (∀ e ∈ turnL l, withinE e n = true) := by
    obtain ⟨N, rfl⟩ : ∃ N : Nat, n = (N : Int) := ⟨n.toNat, by omega⟩
    exact turn_within (right_in hr)
  have Hn := Lib.hid hn
  have hb0 : Below w.heap.size w ((w.alloc (.cells #[.int .i64 n, .slice A m c] 31)).alloc (.cells #[.int .i64 0, .slice none 0 0] 31)) := belowA (belowA (Below.refl _ _) _) _
  have hg0 : ((w.alloc (.cells #[.int .i64 n, .slice A m c] 31)).alloc (.cells #[.int .i64 0, .slice none 0 0] 31)).heap[w.heap.size]? = some (.cells #[.int .i64 n, .slice A m c] 31 (0, 0)) := heapOld (heapNew rfl)
  have hg1 : ((w.alloc (.cells #[.int .i64 n, .slice A m c] 31)).alloc (.cells #[.int .i64 0, .slice none 0 0] 31)).heap[w.heap.size + 1]? = some (.cells #[.int .i64 0, .slice none 0 0] 31 (0, 0)) := heapNew (by simp)
  have c0 : ((w.alloc (.cells #[.int .i64 n, .slice A m c] 31)).alloc (.cells #[.int .i64 0, .slice none 0 0] 31)).cell? ⟨w.heap.size, 0, none⟩ = some (.int .i64 n) := (cell_of_row _ _ 0 _ _ _ hg0).trans rfl
  have c1 : ((w.alloc (.cells #[.int .i64 n, .slice A m c] 31)).alloc (.cells #[.int .i64 0, .slice none 0 0] 31)).cell? ⟨w.heap.size, 1, none⟩ = some (.slice A m c) := (cell_of_row _ _ 1 _ _ _ hg0).trans rfl
  have hR := rightG_any n A m c l _ (h.mono hb0.size hb0.block)
  rw [hr] at hR
  have HR := Lib.hid hR
  have HS := Lib.hid h
  have HB0 := Lib.hid hb0
  have HG0 := Lib.hid hg0
  have HG1 := Lib.hid hg1
  have HZ : Hid (((w.alloc (.cells #[.int .i64 n, .slice A m c] 31)).alloc (.cells #[.int .i64 0, .slice none 0 0] 31)).heap.size = w.heap.size + 2) := by show _ = _; simp
  obtain ⟨P, HP⟩ : ∃ P : Ending → World → Prop, Hid (P = TurnPost n (cpE (sortE (turnL l))) w) := ⟨_, rfl⟩
  rw [← HP.out]
  clear h hlen hn hb0 hg0 hg1 hR hr
  go_enter Tryz.func17, Tryz.ntmps17
  go_wp2_with fail
  refine HR.out.mono ?_
  rintro e V ⟨rfl, hbV⟩
  have hzV : w.heap.size + 2 ≤ V.heap.size := by have := hbV.size; rw [HZ.out] at this; exact this
  have HBV : Hid (Below w.heap.size w V) := HB0.out.trans (hbV.mono HB0.out.size)
  have HV0 : Hid (V.heap[w.heap.size]? = some (.cells #[.int .i64 n, .slice A m c] 31 (0, 0))) := (hbV.block _ (by rw [HZ.out]; omega)).trans HG0.out
  have HV1 : Hid (V.heap[w.heap.size + 1]? = some (.cells #[.int .i64 0, .slice none 0 0] 31 (0, 0))) := (hbV.block _ (by rw [HZ.out]; omega)).trans HG1.out
  have d1 : V.cell? ⟨w.heap.size, 1, none⟩ = some (.slice A m c) := (cell_of_row _ _ 1 _ _ _ HV0.out).trans rfl
  clear hbV HB0 HG0 HG1 HR c0 c1
  go_wp2_with fail
  go_loopw [3, 15] (fun vs vi wr => ∃ (k : Nat) (Ao : Option Addr) (co : Nat), k ≤ m ∧ vs = .slice Ao k co ∧ vi = .int .i64 (k : Int) ∧ Hid (RowOf Enc.edge wr V.heap.size 71 ((w.heap.size + 1) :: blkOf Ao) Ao k co ((turnL l).take k)) ∧ Hid (Below V.heap.size V wr)) (fun _ vi _ => m - (intOf vi).toNat)
  case atStart => exact ⟨0, none, 0, by omega, rfl, rfl, RowOf.nil _, Below.refl _ _⟩
  case round =>
    obtain ⟨k, Ao, co, hk, rfl, rfl, HRo, HB⟩ := hrel
    have i0 : (0 : Int) ≤ (k : Int) := by omega
    have HBw : Hid (Below w.heap.size w wr) := HBV.out.trans (HB.out.mono HBV.out.size)
    by_cases hlt : k < m
    · have i1 : (k : Int) < (m : Int) := by omega
      obtain ⟨b, o, x, rfl, -, hx, x0, x1, x2, hfx⟩ := (HS.out.below HBw.out).edge_at hlt
      have hb1 : Below wr.heap.size wr (wr.alloc (.cells #[.int .i64 x.a, .int .i64 x.b, .bool x.n] 71)) := belowA (Below.refl _ _) _
      have hb2 : Below wr.heap.size wr ((wr.alloc (.cells #[.int .i64 x.a, .int .i64 x.b, .bool x.n] 71)).alloc (.cells #[.int .i64 x.b, .int .i64 x.a, .bool x.n] 71)) := belowA hb1 _
      have e0 : (wr.alloc (.cells #[.int .i64 x.a, .int .i64 x.b, .bool x.n] 71)).cell? ⟨wr.heap.size, 0, none⟩ = some (.int .i64 x.a) := (cell_of_row _ _ 0 _ _ _ (heapNew (w := wr) rfl)).trans rfl
      have e1 : (wr.alloc (.cells #[.int .i64 x.a, .int .i64 x.b, .bool x.n] 71)).cell? ⟨wr.heap.size, 1, none⟩ = some (.int .i64 x.b) := (cell_of_row _ _ 1 _ _ _ (heapNew (w := wr) rfl)).trans rfl
      have e2 : (wr.alloc (.cells #[.int .i64 x.a, .int .i64 x.b, .bool x.n] 71)).cell? ⟨wr.heap.size, 2, none⟩ = some (.bool x.n) := (cell_of_row _ _ 2 _ _ _ (heapNew (w := wr) rfl)).trans rfl
      have hzr := HB.out.size
      have ha := HRo.out.below hb2
      have hok : Enc.edge.ok (sans ((wr.alloc (.cells #[.int .i64 x.a, .int .i64 x.b, .bool x.n] 71)).alloc (.cells #[.int .i64 x.b, .int .i64 x.a, .bool x.n] 71)) ((w.heap.size + 1) :: blkOf Ao)) ((wr.alloc (.cells #[.int .i64 x.a, .int .i64 x.b, .bool x.n] 71)).alloc (.cells #[.int .i64 x.b, .int .i64 x.a, .bool x.n] 71)).heap.size [.int .i64 x.b, .int .i64 x.a, .bool x.n] (turnE x) := ⟨rfl, hfx.2, hfx.1⟩
      obtain ⟨A2, c2, w2, u2, q2, o2, p2⟩ := ha.push (P := Tryz.prog) (t := 29) (ty := 29) Tryz.underlying29 info_edge rfl rfl (by decide) _ (wr.heap.size + 1) [.int .i64 x.b, .int .i64 x.a, .bool x.n] (heapNew (by simp)) hok (by intro u hu; simp at hu; rcases hu with rfl | rfl | rfl <;> rfl) (by simp [maxLen]; omega) (by omega) (by simp; omega) (fun b hb => List.mem_cons_of_mem _ hb)
      have U2 := Lib.hid u2
      have HRo' : Hid (RowOf Enc.edge w2 V.heap.size 71 ((w.heap.size + 1) :: blkOf A2) A2 (k + 1) c2 ((turnL l).take (k + 1))) := by
        have h1 := q2 ((w.heap.size + 1) :: blkOf A2) (fun b hb hlt => by
          rcases List.mem_cons.1 hb with hb | hb
          · exact List.mem_cons.2 (.inl hb)
          · rcases p2 b hb with hh | hh
            · exact List.mem_cons_of_mem _ hh
            · omega)
        have e : (turnL l).take (k + 1) = (turnL l).take k ++ [turnE x] := by
          have : (turnL l)[k]? = some (turnE x) := by unfold turnL; rw [List.getElem?_map, hx.out]; rfl
          rw [List.take_add_one, this]; rfl
        show RowOf _ _ _ _ _ _ _ _ _
        rw [e]
        exact h1
      have hAo : ∀ b ∈ blkOf Ao, V.heap.size ≤ b := fun b hb => (HRo.out.blk hb).1
      have HB' : Hid (Below V.heap.size V w2) := (HB.out.trans (hb2.mono HB.out.size)).trans (o2.below hAo (by have := HB.out.size; simp; omega))
      clear hx hAo hb1 hb2 ha hok u2 q2 o2 p2 HRo HB hfx
      go_wp2_with (at_builtin; refine wpList_append_run (o := ⟨some 28, _, _, _, _, _⟩) rfl _ _ _ rfl _ _ rfl rfl U2.out ?_)
      go_roundw
      case rel => exact ⟨k + 1, A2, c2, by omega, rfl, by go_num, HRo', HB'⟩
      case measure => simp [intOf]; omega
    · have i1 : ¬ (k : Int) < (m : Int) := by omega
      obtain rfl : k = m := by omega
      have hzr := HB.out.size
      have d0 : wr.cell? ⟨w.heap.size, 0, none⟩ = some (.int .i64 n) := (cell_of_row _ _ 0 _ _ _ ((HB.out.block _ (by omega)).trans HV0.out)).trans rfl
      have hsl := HRo.out.slice (T := [w.heap.size + 1]) (by simp [reachN]; omega) (fun b hb hh => by have := (HRo.out.blk hb).1; simp at hh; omega) (fun b hh _ => by simp at hh; simp [hh])
      rw [List.take_of_length_le (by unfold turnL; rw [List.length_map, Hlen.out]; exact Nat.le_refl _)] at hsl
      have HN := Lib.hid (new_any n Ao k co (turnL l) wr hsl.is hm Hn.out.1 Hn.out.2 Hw.out)
      clear hsl HRo
      go_wp2_with fail
      refine HN.out.mono ?_
      rintro e w1 ⟨A1, k1, c1, rfl, hs1, hb1, ha1⟩
      have hz1 := hb1.size
      have hW1 : w1.heap[w.heap.size + 1]? = some (.cells #[.int .i64 0, .slice none 0 0] 31 (0, 0)) := (hb1.block _ (by omega)).trans ((HB.out.block _ (by omega)).trans HV1.out)
      have hW2 : (w1.alloc (.cells #[.int .i64 n, .slice A1 k1 c1] 31)).heap[w.heap.size + 1]? = some (.cells #[.int .i64 0, .slice none 0 0] 31 (0, 0)) := heapOld hW1
      have e0 : (w1.alloc (.cells #[.int .i64 n, .slice A1 k1 c1] 31)).cell? ⟨w1.heap.size, 0, none⟩ = some (.int .i64 n) := (cell_of_row _ _ 0 _ _ _ (heapNew (w := w1) rfl)).trans rfl
      have e1 : (w1.alloc (.cells #[.int .i64 n, .slice A1 k1 c1] 31)).cell? ⟨w1.heap.size, 1, none⟩ = some (.slice A1 k1 c1) := (cell_of_row _ _ 1 _ _ _ (heapNew (w := w1) rfl)).trans rfl
      have f0 : (w1.alloc (.cells #[.int .i64 n, .slice A1 k1 c1] 31)).cell? ⟨w.heap.size + 1, 0, none⟩ = some (.int .i64 0) := (cell_of_row _ _ 0 _ _ _ hW2).trans rfl
      have f1 : (w1.alloc (.cells #[.int .i64 n, .slice A1 k1 c1] 31)).cell? ⟨w.heap.size + 1, 1, none⟩ = some (.slice none 0 0) := (cell_of_row _ _ 1 _ _ _ hW2).trans rfl
      have z0 : (w1.alloc (.cells #[.int .i64 n, .slice A1 k1 c1] 31)).frozen? ⟨w.heap.size + 1, 0, none⟩ = false := frozen_of_row _ _ _ _ _ hW2
      have z1 : (w1.alloc (.cells #[.int .i64 n, .slice A1 k1 c1] 31)).frozen? ⟨w.heap.size + 1, 1, none⟩ = false := frozen_of_row _ _ _ _ _ hW2
      have hs2 : SliceIs Enc.edge (w1.alloc (.cells #[.int .i64 n, .slice A1 k1 c1] 31)) (w1.alloc (.cells #[.int .i64 n, .slice A1 k1 c1] 31)).heap.size A1 k1 c1 (cpE (sortE (turnL l))) := hs1.keep (belowA (Below.refl _ _) _)
      have hb2 : Below w.heap.size w (w1.alloc (.cells #[.int .i64 n, .slice A1 k1 c1] 31)) := (HBw.out.trans (hb1.mono HBw.out.size)).alloc (by have := HBw.out.size; omega) _
      have hne : ∀ b ∈ blkOf A1, b ≠ w.heap.size + 1 := fun b hb => by have := ha1 b hb; omega
      clear hs1 hb1 ha1 hW1 d0 d1 HB HBw HN
      go_wp2_with fail
      generalize w1.alloc (.cells #[.int .i64 n, .slice A1 k1 c1] 31) = w2 at *
      have HE : Hid (P (.returned (graphV n A1 k1 c1)) ((w2.setCell ⟨w.heap.size + 1, 0, none⟩ (.int .i64 n)).setCell ⟨w.heap.size + 1, 1, none⟩ (.slice A1 k1 c1))) := by
        show P _ _
        rw [HP.out]
        refine ⟨A1, k1, c1, rfl, ?_, (hb2.setCell (show w.heap.size ≤ w.heap.size + 1 by omega) _).setCell (show w.heap.size ≤ w.heap.size + 1 by omega) _⟩
        have h1 := (hs2.set_other (o := 0) (val := .int .i64 n) hne).set_other (o := 1) (val := .slice A1 k1 c1) hne
        simpa using h1
      have g0 : ((w2.setCell ⟨w.heap.size + 1, 0, none⟩ (.int .i64 n)).setCell ⟨w.heap.size + 1, 1, none⟩ (.slice A1 k1 c1)).cell? ⟨w.heap.size + 1, 0, none⟩ = some (.int .i64 n) := by
        rw [World.cell?_setCell_other _ _ _ _ (by simp)]; exact World.cell?_setCell_same _ _ _ f0
      have g1 : ((w2.setCell ⟨w.heap.size + 1, 0, none⟩ (.int .i64 n)).setCell ⟨w.heap.size + 1, 1, none⟩ (.slice A1 k1 c1)).cell? ⟨w.heap.size + 1, 1, none⟩ = some (.slice A1 k1 c1) :=
        World.cell?_setCell_same _ _ _ ((World.cell?_setCell_other _ _ _ _ (by simp)).trans f1)
      refine bodyPost_ret (v := .agg #[.int .i64 n, .slice A1 k1 c1]) ?_ rfl HE.out
      simp [results, Tryz.results17, go_sem, g0, g1]
end Go.Proofs.YtgphngjniplonaaGreatDoor
namespace Go.Proofs.YtgphngjniplonaaGreatDoor
theorem right_next {n : Int} {l : List GEdge} (hr : rightG n l = true) {j : Nat} {p x : GEdge} (hp : l[j]? = some p) (hx : l[j + 1]? = some x) : lessE p x = true := by
  simp only [rightG, Bool.and_eq_true, List.all_eq_true, List.mem_range] at hr
  have h := hr.2 (j + 1) (List.getElem?_eq_some_iff.1 hx).1
  unfold okE at h
  rw [hx] at h
  simp only [hp, Bool.and_eq_true] at h
  exact h.2
theorem right_less {n : Int} {l : List GEdge} (hr : rightG n l = true) {i : Nat} {p : GEdge} (hp : l[i]? = some p) : ∀ (d : Nat) {x : GEdge}, l[i + 1 + d]? = some x → lessE p x = true
  | 0, _, hx => right_next hr hp hx
  | d + 1, x, hx => by
    have hlt := (List.getElem?_eq_some_iff.1 hx).1
    have hy : l[i + 1 + d]? = some (l[i + 1 + d]'(by omega)) := List.getElem?_eq_getElem _
    exact lessE_trans (right_less hr hp d hy) (right_next hr hy hx)
theorem right_nodup {n : Int} {l : List GEdge} (hr : rightG n l = true) : l.Nodup := by
  unfold List.Nodup
  rw [List.pairwise_iff_getElem]
  intro i j hi hj hij e
  have h1 := right_less hr (List.getElem?_eq_getElem hi) (j - i - 1) (x := l[j]) (by rw [show i + 1 + (j - i - 1) = j by omega]; exact List.getElem?_eq_getElem hj)
  rw [e, lessE_irr] at h1
  cases h1
theorem turnE_inj {x y : GEdge} (h : turnE x = turnE y) : x = y := by
  cases x; cases y; simp [turnE] at h ⊢; exact ⟨h.2.1, h.1, h.2.2⟩
theorem turn_nodup : ∀ {l : List GEdge}, l.Nodup → (turnL l).Nodup
  | [], _ => List.nodup_nil
  | x :: l, h => by
    rw [List.nodup_cons] at h
    show (turnE x :: turnL l).Nodup
    rw [List.nodup_cons]
    refine ⟨fun hm => ?_, turn_nodup h.2⟩
    obtain ⟨y, hy, e⟩ := List.mem_map.1 hm
    exact h.1 (by rw [← turnE_inj e]; exact hy)
theorem turned_right {n : Int} {l : List GEdge} (hr : rightG n l = true) (hw : ∀ e ∈ l, withinE e n = true) : rightG n (sortE (turnL l)) = true := by
  have h0 := hr
  simp only [rightG, Bool.and_eq_true, decide_eq_true_eq] at h0
  have hnd : (sortE (turnL l)).Nodup := (sortE_perm _).nodup_iff.2 (turn_nodup (right_nodup hr))
  have hs := sortE_sorted (turnL l)
  have hin : ∀ e ∈ sortE (turnL l), withinE e n = true := fun e he => turn_within hw e ((sortE_perm _).mem_iff.1 he)
  generalize sortE (turnL l) = L at *
  refine rightG_all h0.1.1 h0.1.2 fun k hk => ?_
  unfold List.Nodup at hnd
  rw [List.pairwise_iff_getElem] at hs hnd
  unfold okE
  rw [List.getElem?_eq_getElem hk]
  simp only [Bool.and_eq_true]
  refine ⟨hin _ (List.getElem_mem hk), ?_⟩
  cases k with
  | zero => rfl
  | succ j =>
    have hj : j < L.length := by omega
    simp only [List.getElem?_eq_getElem hj]
    have h1 := hs j (j + 1) hj hk (by omega)
    have h2 := hnd j (j + 1) hj hk (by omega)
    simp only [Bool.not_eq_true'] at h1
    cases h3 : lessE L[j] L[j + 1] with
    | true => rfl
    | false => exact absurd (lessE_total h3 h1) h2
end Go.Proofs.YtgphngjniplonaaGreatDoor

namespace Go.Proofs.YtgphngjniplonaaGreatDoor
open Go.RowKit
end Go.Proofs.YtgphngjniplonaaGreatDoor
namespace Go.Proofs.YtgphngjniplonaaGreatDoor
open Go.RowKit
def TurnBad (w : World) (e : Ending) (w' : World) : Prop := e = .returned (graphV 0 none 0 0) ∧ Below w.heap.size w w'
theorem turned_bad (n : Int) (A : Option Addr) (m c : Nat) (l : List GEdge) (w : World) (h : SliceIs Enc.edge w w.heap.size A m c l) (hr : rightG n l = false) :
    Calls Tryz.prog 17 #[graphV n A m c] w (TurnBad w) := by
  have hb0 : Below w.heap.size w ((w.alloc (.cells #[.int .i64 n, .slice A m c] 31)).alloc (.cells #[.int .i64 0, .slice none 0 0] 31)) := belowA (belowA (Below.refl _ _) _) _
  have hg0 : ((w.alloc (.cells #[.int .i64 n, .slice A m c] 31)).alloc (.cells #[.int .i64 0, .slice none 0 0] 31)).heap[w.heap.size]? = some (.cells #[.int .i64 n, .slice A m c] 31 (0, 0)) := heapOld (heapNew rfl)
  have hg1 : ((w.alloc (.cells #[.int .i64 n, .slice A m c] 31)).alloc (.cells #[.int .i64 0, .slice none 0 0] 31)).heap[w.heap.size + 1]? = some (.cells #[.int .i64 0, .slice none 0 0] 31 (0, 0)) := heapNew (by simp)
  have c0 : ((w.alloc (.cells #[.int .i64 n, .slice A m c] 31)).alloc (.cells #[.int .i64 0, .slice none 0 0] 31)).cell? ⟨w.heap.size, 0, none⟩ = some (.int .i64 n) := (cell_of_row _ _ 0 _ _ _ hg0).trans rfl
  have c1 : ((w.alloc (.cells #[.int .i64 n, .slice A m c] 31)).alloc (.cells #[.int .i64 0, .slice none 0 0] 31)).cell? ⟨w.heap.size, 1, none⟩ = some (.slice A m c) := (cell_of_row _ _ 1 _ _ _ hg0).trans rfl
  have hR := rightG_any n A m c l _ (h.mono hb0.size hb0.block)
  rw [hr] at hR
  have HR := Lib.hid hR
  have HB0 := Lib.hid hb0
  have HG1 := Lib.hid hg1
  have HZ : Hid (((w.alloc (.cells #[.int .i64 n, .slice A m c] 31)).alloc (.cells #[.int .i64 0, .slice none 0 0] 31)).heap.size = w.heap.size + 2) := by show _ = _; simp
  clear h hb0 hg0 hg1 hR hr
  go_enter Tryz.func17, Tryz.ntmps17
  go_wp2_with fail
  refine HR.out.mono ?_
  rintro e V ⟨rfl, hbV⟩
  have HBV : Below w.heap.size w V := HB0.out.trans (hbV.mono HB0.out.size)
  have hW : V.heap[w.heap.size + 1]? = some (.cells #[.int .i64 0, .slice none 0 0] 31 (0, 0)) := (hbV.block _ (by rw [HZ.out]; omega)).trans HG1.out
  have f0 : V.cell? ⟨w.heap.size + 1, 0, none⟩ = some (.int .i64 0) := (cell_of_row _ _ 0 _ _ _ hW).trans rfl
  have f1 : V.cell? ⟨w.heap.size + 1, 1, none⟩ = some (.slice none 0 0) := (cell_of_row _ _ 1 _ _ _ hW).trans rfl
  have z0 : V.frozen? ⟨w.heap.size + 1, 0, none⟩ = false := frozen_of_row _ _ _ _ _ hW
  have z1 : V.frozen? ⟨w.heap.size + 1, 1, none⟩ = false := frozen_of_row _ _ _ _ _ hW
  have g0 : ((V.setCell ⟨w.heap.size + 1, 0, none⟩ (.int .i64 0)).setCell ⟨w.heap.size + 1, 1, none⟩ (.slice none 0 0)).cell? ⟨w.heap.size + 1, 0, none⟩ = some (.int .i64 0) := by
    rw [World.cell?_setCell_other _ _ _ _ (by simp)]; exact World.cell?_setCell_same _ _ _ f0
  have g1 : ((V.setCell ⟨w.heap.size + 1, 0, none⟩ (.int .i64 0)).setCell ⟨w.heap.size + 1, 1, none⟩ (.slice none 0 0)).cell? ⟨w.heap.size + 1, 1, none⟩ = some (.slice none 0 0) :=
    World.cell?_setCell_same _ _ _ ((World.cell?_setCell_other _ _ _ _ (by simp)).trans f1)
  have HE : Hid (TurnBad w (.returned (graphV 0 none 0 0)) ((V.setCell ⟨w.heap.size + 1, 0, none⟩ (.int .i64 0)).setCell ⟨w.heap.size + 1, 1, none⟩ (.slice none 0 0))) :=
    ⟨rfl, (HBV.setCell (show w.heap.size ≤ w.heap.size + 1 by omega) _).setCell (show w.heap.size ≤ w.heap.size + 1 by omega) _⟩
  clear hbV HBV hW HR HB0 HG1 HZ c0 c1
  go_wp2_with fail
  refine bodyPost_ret (v := .agg #[.int .i64 0, .slice none 0 0]) ?_ rfl HE.out
  simp [results, Tryz.results17, go_sem, g0, g1]
end Go.Proofs.YtgphngjniplonaaGreatDoor
namespace Go.Proofs.YtgphngjniplonaaGreatDoor
end Go.Proofs.YtgphngjniplonaaGreatDoor
namespace Go.Proofs.YtgphngjniplonaaGreatDoor
section
variable {has : Nat → Nat → Bool} {n : Nat}
structure BInv (has : Nat → Nat → Bool) (n : Nat) (out : List Nat) (k : Nat) (ds : List Nat) : Prop where
  nod : out.Nodup
  rea : ∀ b ∈ out, ∃ l, l ≠ [] ∧ IsWay has n l ∧ wayEnd n l = b
  clo : ∀ x ∈ (n :: out).take k, ∀ y, has x y = true → y ∈ out
  cur : ∀ y ∈ ds, y ∈ out
theorem BInv.start : BInv has n [] 0 [] where
  nod := List.nodup_nil
  rea b h := by cases h
  clo x h := by simp at h
  cur y h := by cases h
theorem BInv.skip {out ds : List Nat} {k y : Nat} (h : BInv has n out k ds) (hy : y ∈ out) : BInv has n out k (ds ++ [y]) where
  nod := h.nod
  rea := h.rea
  clo := h.clo
  cur z hz := by
    rcases List.mem_append.1 hz with h1 | h1
    · exact h.cur z h1
    · rw [List.mem_singleton.1 h1]; exact hy
theorem BInv.way {out ds : List Nat} {k x y : Nat} (h : BInv has n out k ds) (hx : (n :: out)[k]? = some x) (hxy : has x y = true) : ∃ l, l ≠ [] ∧ IsWay has n l ∧ wayEnd n l = y := by
  rcases List.mem_cons.1 (List.mem_of_getElem? hx) with rfl | h1
  · exact ⟨[y], by simp, ⟨hxy, trivial⟩, rfl⟩
  · obtain ⟨l, -, h3, h4⟩ := h.rea x h1
    exact ⟨l ++ [y], by simp, (isWay_append _ _ _).2 ⟨h3, by rw [h4]; exact ⟨hxy, trivial⟩⟩, by rw [wayEnd_append]; rfl⟩
theorem BInv.add {out ds : List Nat} {k x y : Nat} (h : BInv has n out k ds) (hx : (n :: out)[k]? = some x) (hxy : has x y = true) (hy : y ∉ out) : BInv has n (out ++ [y]) k (ds ++ [y]) where
  nod := by
    rw [List.nodup_append]
    exact ⟨h.nod, by simp, fun a ha b hb e => by
      rw [List.mem_singleton.1 hb] at e
      rw [e] at ha
      exact hy ha⟩
  rea b hb := by
    rcases List.mem_append.1 hb with h1 | h1
    · exact h.rea b h1
    · rw [List.mem_singleton.1 h1]; exact h.way hx hxy
  clo z hz w hw := by
    have hk : k < (n :: out).length := (List.getElem?_eq_some_iff.1 hx).1
    rw [show n :: (out ++ [y]) = (n :: out) ++ [y] from rfl, List.take_append_of_le_length (by omega)] at hz
    exact List.mem_append_left _ (h.clo z hz w hw)
  cur z hz := by
    rcases List.mem_append.1 hz with h1 | h1
    · exact List.mem_append_left _ (h.cur z h1)
    · exact List.mem_append_right _ h1
theorem BInv.next {out ds : List Nat} {k x : Nat} (h : BInv has n out k ds) (hx : (n :: out)[k]? = some x) (hd : ∀ y, has x y = true → y ∈ ds) : BInv has n out (k + 1) [] where
  nod := h.nod
  rea := h.rea
  clo z hz w hw := by
    rw [List.take_add_one, hx] at hz
    rcases List.mem_append.1 hz with h1 | h1
    · exact h.clo z h1 w hw
    · simp at h1
      subst h1
      exact h.cur w (hd w hw)
  cur y hy := by cases hy
theorem BInv.done {out : List Nat} {k : Nat} (h : BInv has n out k []) (hk : out.length < k) (b : Nat) : b ∈ out ↔ ∃ l, l ≠ [] ∧ IsWay has n l ∧ wayEnd n l = b := by
  have hall : ∀ x ∈ n :: out, ∀ y, has x y = true → y ∈ out := fun x hx y hxy => h.clo x (by rw [List.take_of_length_le (by simp; omega)]; exact hx) y hxy
  constructor
  · exact h.rea b
  · rintro ⟨l, hne, hw, rfl⟩
    have hgo : ∀ (l : List Nat) (a : Nat), a ∈ n :: out → l ≠ [] → IsWay has a l → wayEnd a l ∈ out := by
      intro l
      induction l with
      | nil => intro a _ hne _; exact absurd rfl hne
      | cons x l ih =>
        intro a ha _ hw
        have hx := hall a ha x hw.1
        cases l with
        | nil => exact hx
        | cons z t => exact ih x (List.mem_cons_of_mem _ hx) (by simp) hw.2
    exact hgo l n (List.mem_cons_self ..) hne hw
theorem BInv.reached {N : Nat} (hN : ∀ x y, has x y = true → y < N) (hn : n < N) {out q : List Nat} {k : Nat} (h : BInv has n out k []) (hk : out.length < k) (hq : q.Pairwise (· < ·)) (hm : ∀ x, x ∈ q ↔ x ∈ out) : q = (List.range N).filter (fun b => decide (0 < farN N has n b)) := by
  have ext : ∀ {l m : List Nat}, l.Pairwise (· < ·) → m.Pairwise (· < ·) → (∀ x, x ∈ l ↔ x ∈ m) → l = m := by
    intro l
    induction l with
    | nil =>
      intro m _ _ h
      cases m with
      | nil => rfl
      | cons y m => exact absurd ((h y).2 (List.mem_cons_self ..)) (by simp)
    | cons x l ih =>
      intro m hl hm h
      cases m with
      | nil => exact absurd ((h x).1 (List.mem_cons_self ..)) (by simp)
      | cons y m =>
        rw [List.pairwise_cons] at hl hm
        have hxy : x = y := by
          rcases List.mem_cons.1 ((h x).1 (List.mem_cons_self ..)) with h1 | h1
          · exact h1
          · rcases List.mem_cons.1 ((h y).2 (List.mem_cons_self ..)) with h2 | h2
            · exact h2.symm
            · have := hl.1 y h2; have := hm.1 x h1; omega
        subst hxy
        rw [ih hl.2 hm.2 (fun z => by
          constructor
          · intro hz
            rcases List.mem_cons.1 ((h z).1 (List.mem_cons_of_mem _ hz)) with h1 | h1
            · have := hl.1 z hz; omega
            · exact h1
          · intro hz
            rcases List.mem_cons.1 ((h z).2 (List.mem_cons_of_mem _ hz)) with h1 | h1
            · have := hm.1 z hz; omega
            · exact h1)]
  refine ext hq (List.Pairwise.sublist List.filter_sublist List.pairwise_lt_range) (fun x => ?_)
  rw [hm, h.done hk, List.mem_filter, List.mem_range, decide_eq_true_eq, far_pos hN hn]
  constructor
  · rintro ⟨l, h1, h2, h3⟩
    refine ⟨?_, l, h1, h2, h3⟩
    have hl : wayEnd n l ∈ l := by
      clear h2 h3
      induction l generalizing n with
      | nil => exact absurd rfl h1
      | cons y t ih =>
        cases t with
        | nil => exact List.mem_cons_self ..
        | cons z t => exact List.mem_cons_of_mem _ (by
            have hgen : ∀ (t : List Nat) (z y : Nat), wayEnd y (z :: t) ∈ z :: t := by
              intro t
              induction t with
              | nil => intro z y; exact List.mem_cons_self ..
              | cons u t ih2 => intro z y; exact List.mem_cons_of_mem _ (ih2 u z)
            exact hgen t z y)
    rw [← h3]
    exact way_mem hN h2 _ hl
  · exact fun h => h.2
end
end Go.Proofs.YtgphngjniplonaaGreatDoor
