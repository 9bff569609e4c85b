/- Of the laws on graphs: Large, Document; the fixed fact. -/
import Derived.Test.YtdbpbchhkdconaaScTo
import Derived.Test.YtdbpbchhkdconaaScDi
namespace Go.Proofs.Ytdbpbchhkdconaa
open Go.RowKit

def largeB (n : Int) (m : Nat) : Bool := decide (60 < m) || (decide (12 < n) && decide (n ≤ 32))
set_option maxRecDepth 100000 in
set_option maxHeartbeats 1000000 in
theorem large_any (n : Int) (A : Option Addr) (m c : Nat) (w : World) : Calls Try.prog 12 #[graphV n A m c] w (RetBool (largeB n m) w) := by
  obtain ⟨hb0, c0, c1⟩ := boxG n A m c w
  have HB0 := Lib.hid hb0
  have hyu : undef = Value.tuple #[] := rfl
  clear hb0
  by_cases h1 : 60 < m
  · have i1 : (60 : Int) < (m : Int) := by omega
    rw [show largeB n m = true by simp [largeB, h1]]
    go_enter Try.func12, Try.ntmps12
    go_wp2_with fail
    go_ret
    exact ⟨rfl, HB0.out⟩
  · have i1 : ¬ (60 : Int) < (m : Int) := by omega
    by_cases h2 : (12 : Int) < n
    · by_cases h3 : n ≤ 32
      · rw [show largeB n m = true by simp [largeB, h2, h3]]
        go_enter Try.func12, Try.ntmps12
        go_wp2_with fail
        go_ret
        exact ⟨rfl, HB0.out⟩
      · rw [show largeB n m = false by simp [largeB, h1, h3]]
        go_enter Try.func12, Try.ntmps12
        go_wp2_with fail
        go_ret
        exact ⟨rfl, HB0.out⟩
    · rw [show largeB n m = false by simp [largeB, h1, h2]]
      go_enter Try.func12, Try.ntmps12
      go_wp2_with fail
      go_ret
      exact ⟨rfl, HB0.out⟩

def DocPost (n : Int) (l : List GEdge) (w : World) (e : Ending) (w' : World) : Prop :=
  ∃ A c, e = .returned (.agg #[.int .i64 n, .slice A l.length c]) ∧ SliceIs Enc.edge w' w'.heap.size A l.length c l ∧ Below w.heap.size w w'

set_option maxRecDepth 100000 in
set_option maxHeartbeats 4000000 in
theorem document_any (n : Int) (A : Option Addr) (m c : Nat) (l : List GEdge) (w : World) (h : SliceIs Enc.edge w w.heap.size A m c l) (hm : m ≤ 10000) : Calls Try.prog 13 #[graphV n A m c] w (DocPost n l w) := by
  have HS := Lib.hid h
  have hlen : l.length = m := h.1
  have Hlen := Lib.hid hlen
  obtain ⟨P, HP⟩ : ∃ P : Ending → World → Prop, Hid (P = DocPost n l w) := ⟨_, rfl⟩
  rw [← HP.out]
  have cg0 : ((w.alloc (.cells #[.int .i64 n, .slice A m c] 24)).alloc (.cells #[.int .i64 0, .slice none 0 0] 36)).cell? ⟨w.heap.size, 0, none⟩ = some (.int .i64 n) := cellA ((cell_of_row _ _ 0 _ _ _ (heapNew (w := w) rfl)).trans rfl)
  clear h hlen
  go_enter Try.func13, Try.ntmps13
  have cg1 : (((w.alloc (.cells #[.int .i64 n, .slice A m c] 24)).alloc (.cells #[.int .i64 0, .slice none 0 0] 36)).alloc (.cells #[.int .i64 n, .slice none 0 0] 36)).cell? ⟨w.heap.size, 1, none⟩ = some (.slice A m c) := cellA (cellA ((cell_of_row _ _ 1 _ _ _ (heapNew (w := w) rfl)).trans rfl))
  go_wp2_with fail
  have hb0 : Below w.heap.size w (((w.alloc (.cells #[.int .i64 n, .slice A m c] 24)).alloc (.cells #[.int .i64 0, .slice none 0 0] 36)).alloc (.cells #[.int .i64 n, .slice none 0 0] 36)) := belowA (belowA (belowA (Below.refl _ _) _) _) _
  have hg2 : (((w.alloc (.cells #[.int .i64 n, .slice A m c] 24)).alloc (.cells #[.int .i64 0, .slice none 0 0] 36)).alloc (.cells #[.int .i64 n, .slice none 0 0] 36)).heap[w.heap.size + 1 + 1]? = some (.cells #[.int .i64 n, .slice none 0 0] 36 (0, 0)) := heapNew (by simp)
  have hg1 : (((w.alloc (.cells #[.int .i64 n, .slice A m c] 24)).alloc (.cells #[.int .i64 0, .slice none 0 0] 36)).alloc (.cells #[.int .i64 n, .slice none 0 0] 36)).heap[w.heap.size + 1]? = some (.cells #[.int .i64 0, .slice none 0 0] 36 (0, 0)) := heapOld (heapNew (by simp))
  generalize ((w.alloc (.cells #[.int .i64 n, .slice A m c] 24)).alloc (.cells #[.int .i64 0, .slice none 0 0] 36)).alloc (.cells #[.int .i64 n, .slice none 0 0] 36) = V at *
  have hlt1 : w.heap.size + 1 < w.heap.size + 1 + 1 := by omega
  have hlt0 : w.heap.size < w.heap.size + 1 := by omega
  generalize w.heap.size + 1 + 1 = r2 at *
  generalize w.heap.size + 1 = r1 at *
  have hV2 := (Array.getElem?_eq_some_iff.1 hg2).1
  have HB0 := Lib.hid hb0
  have HG1 := Lib.hid hg1
  have HG2 := Lib.hid hg2
  clear hb0 hg1 hg2 cg0 cg1
  go_loopw [5, 12] (fun _ i wr => ∃ (k : Nat) (Ao : Option Addr) (co : Nat), k ≤ m ∧ i = .int .i64 (k : Int) ∧ Hid (wr.heap[r2]? = some (.cells #[.int .i64 n, .slice Ao k co] 36 (0, 0))) ∧ Hid (wr.heap[r1]? = some (.cells #[.int .i64 0, .slice none 0 0] 36 (0, 0))) ∧ Hid (RowOf Enc.edge wr V.heap.size 45 (r1 :: r2 :: blkOf Ao) Ao k co (l.take k)) ∧ Hid (Below w.heap.size w wr) ∧ V.heap.size ≤ wr.heap.size) (fun _ i _ => m - (intOf i).toNat)
  case atStart => exact ⟨0, none, 0, by omega, rfl, HG2, HG1, RowOf.nil _, HB0, Nat.le_refl _⟩
  case round =>
    obtain ⟨k, Ao, co, hk, rfl, HR2, HR1, HRo, HB, hz⟩ := hrel
    have i0 : (0 : Int) ≤ (k : Int) := by omega
    by_cases hlt : k < m
    · have i1 : (k : Int) < (m : Int) := by omega
      obtain ⟨b, o, x, rfl, -, hx, x0, x1, x2, hfx⟩ := (HS.out.below HB.out).edge_at hlt
      have hAo : ∀ b ∈ blkOf Ao, V.heap.size ≤ b := fun b hb => (HRo.out.blk hb).1
      have hb1 : Below wr.heap.size wr (wr.alloc (.cells #[.int .i64 x.a, .int .i64 x.b, .bool x.n] 32)) := belowA (Below.refl _ _) _
      have hb2 : Below wr.heap.size wr ((wr.alloc (.cells #[.int .i64 x.a, .int .i64 x.b, .bool x.n] 32)).alloc (.cells #[.int .i64 x.a, .int .i64 x.b, .bool x.n] 45)) := belowA hb1 _
      have e0 : (wr.alloc (.cells #[.int .i64 x.a, .int .i64 x.b, .bool x.n] 32)).cell? ⟨wr.heap.size, 0, none⟩ = some (.int .i64 x.a) := (cell_of_row _ _ 0 _ _ _ (heapNew (w := wr) rfl)).trans rfl
      have e1 : (wr.alloc (.cells #[.int .i64 x.a, .int .i64 x.b, .bool x.n] 32)).cell? ⟨wr.heap.size, 1, none⟩ = some (.int .i64 x.b) := (cell_of_row _ _ 1 _ _ _ (heapNew (w := wr) rfl)).trans rfl
      have e2 : (wr.alloc (.cells #[.int .i64 x.a, .int .i64 x.b, .bool x.n] 32)).cell? ⟨wr.heap.size, 2, none⟩ = some (.bool x.n) := (cell_of_row _ _ 2 _ _ _ (heapNew (w := wr) rfl)).trans rfl
      have e3 : (wr.alloc (.cells #[.int .i64 x.a, .int .i64 x.b, .bool x.n] 32)).cell? ⟨r2, 1, none⟩ = some (.slice Ao k co) := cellA ((cell_of_row _ _ 1 _ _ _ HR2.out).trans rfl)
      have ha := HRo.out.below hb2
      have hok : Enc.edge.ok (sans ((wr.alloc (.cells #[.int .i64 x.a, .int .i64 x.b, .bool x.n] 32)).alloc (.cells #[.int .i64 x.a, .int .i64 x.b, .bool x.n] 45)) (r1 :: r2 :: blkOf Ao)) ((wr.alloc (.cells #[.int .i64 x.a, .int .i64 x.b, .bool x.n] 32)).alloc (.cells #[.int .i64 x.a, .int .i64 x.b, .bool x.n] 45)).heap.size [.int .i64 x.a, .int .i64 x.b, .bool x.n] x := ⟨rfl, hfx⟩
      obtain ⟨A2, c2, w2, u2, q2, o2, p2⟩ := ha.push (P := Try.prog) (t := 34) (ty := 34) Try.underlying34 info_redge rfl rfl (by decide) _ (wr.heap.size + 1) [.int .i64 x.a, .int .i64 x.b, .bool x.n] (heapNew (by simp)) hok (by intro u hu; simp at hu; rcases hu with rfl | rfl | rfl <;> rfl) (by simp [maxLen]; omega) (by omega) (by simp; omega) (fun b hb => List.mem_cons_of_mem _ (List.mem_cons_of_mem _ hb))
      have U2 := Lib.hid u2
      have hr2l := (Array.getElem?_eq_some_iff.1 HR2.out).1
      have hr2n : r2 ∉ blkOf Ao := fun hh => by have := hAo _ hh; omega
      have hr1n : r1 ∉ blkOf Ao := fun hh => by have := hAo _ hh; omega
      have hrow2 : w2.heap[r2]? = some (.cells #[.int .i64 n, .slice Ao k co] 36 (0, 0)) := (o2.block _ (by simp; omega) hr2n).trans (heapOld (heapOld HR2.out))
      have hrow1 : w2.heap[r1]? = some (.cells #[.int .i64 0, .slice none 0 0] 36 (0, 0)) := (o2.block _ (by simp; omega) hr1n).trans (heapOld (heapOld HR1.out))
      have d1 : w2.cell? ⟨r2, 1, none⟩ = some (.slice Ao k co) := (cell_of_row _ _ 1 _ _ _ hrow2).trans rfl
      have f1 : w2.frozen? ⟨r2, 1, none⟩ = false := frozen_of_row _ _ _ _ _ hrow2
      have hA2 : r2 ∉ blkOf A2 := fun hh => by
        rcases p2 _ hh with h3 | h3
        · exact hr2n h3
        · simp at h3; omega
      have HR2' : Hid ((w2.setCell ⟨r2, 1, none⟩ (.slice A2 (k + 1) c2)).heap[r2]? = some (.cells #[.int .i64 n, .slice A2 (k + 1) c2] 36 (0, 0))) := by
        show _ = _
        rw [set_cell8 hrow2]; rfl
      have HR1' : Hid ((w2.setCell ⟨r2, 1, none⟩ (.slice A2 (k + 1) c2)).heap[r1]? = some (.cells #[.int .i64 0, .slice none 0 0] 36 (0, 0))) := (World.heap_setCells_other' (show r1 ≠ r2 from by omega)).trans hrow1
      have HRo' : Hid (RowOf Enc.edge (w2.setCell ⟨r2, 1, none⟩ (.slice A2 (k + 1) c2)) V.heap.size 45 (r1 :: r2 :: blkOf A2) A2 (k + 1) c2 (l.take (k + 1))) := by
        have h1 := q2 (r1 :: r2 :: blkOf A2) (fun b hb hlt => by
          rcases List.mem_cons.1 hb with hb | hb
          · exact List.mem_cons.2 (.inl hb)
          · rcases List.mem_cons.1 hb with hb | hb
            · exact List.mem_cons_of_mem _ (List.mem_cons.2 (.inl hb))
            · rcases p2 b hb with hh | hh
              · exact List.mem_cons_of_mem _ (List.mem_cons_of_mem _ hh)
              · omega)
        have e : l.take (k + 1) = l.take k ++ [x] := by rw [List.take_add_one, hx.out]; rfl
        show RowOf _ _ _ _ _ _ _ _ _
        rw [e]
        exact h1.out (set_out w2 r2 1 _) (fun b hb hh => by simp at hh; subst hh; exact hA2 hb) (fun b hb _ => by simp at hb; simp [hb]) (fun b hb _ => hb)
      have HB' : Hid (Below w.heap.size w (w2.setCell ⟨r2, 1, none⟩ (.slice A2 (k + 1) c2))) := ((HB.out.trans (hb2.mono HB.out.size)).trans (o2.below (fun b hb => by have := hAo b hb; omega) (by have := HB.out.size; simp; omega))).setCell (show w.heap.size ≤ r2 from by omega) _
      have hz' : V.heap.size ≤ (w2.setCell ⟨r2, 1, none⟩ (.slice A2 (k + 1) c2)).heap.size := by have := o2.size; simp at this ⊢; omega
      clear hx hAo hb1 hb2 ha hok u2 q2 o2 p2 hr2n hr1n hrow2 hrow1 hA2 HR2 HR1 HRo HB hfx
      go_wp2_with (at_builtin; refine wpList_append_run (o := ⟨some 20, _, _, _, _, _⟩) rfl _ _ _ rfl _ _ rfl rfl U2.out ?_)
      go_roundw
      case rel => exact ⟨k + 1, A2, c2, by omega, by go_num, HR2', HR1', HRo', HB', hz'⟩
      case measure => simp [intOf]; omega
    · have i1 : ¬ (k : Int) < (m : Int) := by omega
      obtain rfl : k = m := by omega
      have d0 : wr.cell? ⟨r2, 0, none⟩ = some (.int .i64 n) := (cell_of_row _ _ 0 _ _ _ HR2.out).trans rfl
      have d1 : wr.cell? ⟨r2, 1, none⟩ = some (.slice Ao k co) := (cell_of_row _ _ 1 _ _ _ HR2.out).trans rfl
      have hrow1 := HR1.out
      have hsl := HRo.out.slice (T := [r1]) (by simp [reachN]; omega) (fun b hb hh => by have := (HRo.out.blk hb).1; simp at hh; omega) (fun b hh _ => by simp at hh; simp [hh])
      rw [List.take_of_length_le (by rw [Hlen.out]; omega)] at hsl
      have g1 : wr.cell? ⟨r1, 0, none⟩ = some (.int .i64 0) := (cell_of_row _ _ 0 _ _ _ hrow1).trans rfl
      have g2 : wr.cell? ⟨r1, 1, none⟩ = some (.slice none 0 0) := (cell_of_row _ _ 1 _ _ _ hrow1).trans rfl
      have f1 : ∀ o, wr.frozen? ⟨r1, o, none⟩ = false := fun o => frozen_of_row _ _ _ _ _ hrow1
      have f2 := f1 0
      have f3 := f1 1
      have HE : Hid (P (.returned (.agg #[.int .i64 n, .slice Ao k co])) ((wr.setCell ⟨r1, 0, none⟩ (.int .i64 n)).setCell ⟨r1, 1, none⟩ (.slice Ao k co))) := by
        show P _ _
        rw [HP.out]
        have ho : Out [r1] wr ((wr.setCell ⟨r1, 0, none⟩ (.int .i64 n)).setCell ⟨r1, 1, none⟩ (.slice Ao k co)) := (set_out wr r1 0 _).trans (set_out _ r1 1 _) (fun b hb _ => hb)
        have h9 := (SliceFar.out hsl ho (fun b hb _ => hb) (fun b hb _ => hb) : SliceFar Enc.edge _ [r1] Ao k co l).is
        unfold DocPost
        rw [Hlen.out]
        exact ⟨Ao, co, rfl, h9, HB.out.trans (ho.below (fun b hb => by simp at hb; omega) HB.out.size)⟩
      have hrw : ((wr.setCell ⟨r1, 0, none⟩ (.int .i64 n)).setCell ⟨r1, 1, none⟩ (.slice Ao k co)).heap[r1]? = some (.cells #[.int .i64 n, .slice Ao k co] 36 (0, 0)) := (set_cell8 (set_cell8 hrow1)).trans rfl
      have hx0 : ((wr.setCell ⟨r1, 0, none⟩ (.int .i64 n)).setCell ⟨r1, 1, none⟩ (.slice Ao k co)).cell? ⟨r1, 0, none⟩ = some (.int .i64 n) := (cell_of_row _ _ 0 _ _ _ hrw).trans rfl
      have hx1 : ((wr.setCell ⟨r1, 0, none⟩ (.int .i64 n)).setCell ⟨r1, 1, none⟩ (.slice Ao k co)).cell? ⟨r1, 1, none⟩ = some (.slice Ao k co) := (cell_of_row _ _ 1 _ _ _ hrw).trans rfl
      clear hsl hrow1 f1 hrw HR1 HR2 HRo
      go_wp2_with fail
      refine bodyPost_ret (v := .agg #[.int .i64 n, .slice Ao k co]) ?_ rfl HE.out
      simp [results, Try.results13, go_sem, hx0, hx1]

theorem nat_int {w : World} {B : Nat} {A : Option Addr} {n c : Nat} {l : List Nat} (h : SliceIs Enc.nat w B A n c l) : SliceIs Enc.int w B A n c (l.map (fun x : Nat => (x : Int))) := by
  obtain ⟨h1, h2, h3, h4, h5⟩ := h
  refine ⟨by simpa using h1, h2, h3, h4, ?_⟩
  rcases h5 with h5 | ⟨b, o, hA, hb, hc⟩
  · exact .inl (by rw [h5]; rfl)
  · refine .inr ⟨b, o, hA, hb, fun i x hx => ?_⟩
    rw [List.getElem?_map] at hx
    obtain ⟨y, hy, rfl⟩ := Option.map_eq_some_iff.1 hx
    obtain ⟨cs, ⟨rfl, hok⟩, hcs⟩ := hc i y hy
    exact ⟨_, ⟨rfl, fits_sm (by omega)⟩, hcs⟩

def lAl : List GEdge := [⟨0, 1, false⟩, ⟨1, 0, false⟩, ⟨1, 2, false⟩]
theorem lAl_right : rightG ((3 : Nat) : Int) lAl = true := by decide +kernel
theorem lAl_comps : compsF 3 (eN lAl) (togN 3 (hasN lAl)) 3 (fun _ => false) = [[2], [0, 1]] := by decide +kernel

set_option maxRecDepth 100000 in
set_option maxHeartbeats 4000000 in
theorem alive11_any (w : World) : Calls Try.prog 7 #[] w (RetBool true w) := by
  have hl : SliceIs Enc.edge (w.alloc (.cells #[.int .i64 0, .int .i64 1, .bool false, .int .i64 1, .int .i64 0, .bool false, .int .i64 1, .int .i64 2, .bool false] 32)) (w.alloc (.cells #[.int .i64 0, .int .i64 1, .bool false, .int .i64 1, .int .i64 0, .bool false, .int .i64 1, .int .i64 2, .bool false] 32)).heap.size (some ⟨w.heap.size, 0, none⟩) 3 3 lAl :=
    SliceIs.of_block GEdge.cells (fun _ => rfl) (Go.heap_alloc_new w _) rfl (by simp [reachN, lAl]) (fun x hx => ⟨rfl, by
      have f : ∀ y ∈ lAl, (0 ≤ y.a ∧ y.a < 1000000) ∧ (0 ≤ y.b ∧ y.b < 1000000) := by decide
      exact ⟨fits_sm (f x hx).1, fits_sm (f x hx).2⟩⟩)
  have hC := comps_any 3 (by omega) (some ⟨w.heap.size, 0, none⟩) 3 3 lAl _ hl (by omega) lAl_right
  unfold CoPost at hC
  rw [lAl_comps] at hC
  have HC := Lib.hid hC
  clear hC hl
  go_enter Try.func7, Try.ntmps7
  go_wp2_with fail
  refine HC.out.mono ?_
  rintro e w1 ⟨A1, k1, c1, rfl, hs, hb1⟩
  have hk : k1 = 2 := hs.1.symm
  subst hk
  obtain ⟨b, o, p0, B0, n0, d0, rfl, hb, hx0, x0, hp0⟩ := hs.slice_at (i := 0) (by omega)
  obtain ⟨b', o', p1, B1, n1, d1, hA, -, hx1, x1, hp1⟩ := hs.slice_at (i := 1) (by omega)
  injection hA with hA; injection hA with e1 e2 _; subst e1; subst e2
  obtain rfl : p0 = [2] := by have := hx0.out; simpa using this.symm
  obtain rfl : p1 = [0, 1] := by have := hx1.out; simpa using this.symm
  rw [Nat.add_zero] at x0
  have HB1 : Hid (Below w.heap.size w w1) := (belowA (Below.refl _ _) _ : Below w.heap.size w _).trans (hb1.mono (by simp))
  have hq1 : SliceIs Enc.nat (w1.alloc (.cells #[.int .i64 2] 3)) (w1.alloc (.cells #[.int .i64 2] 3)).heap.size (some ⟨w1.heap.size, 0, none⟩) 1 1 [2] :=
    SliceIs.of_block (fun n => [.int .i64 (n : Int)]) (fun _ => rfl) (Go.heap_alloc_new w1 _) rfl (by simp [reachN]) (fun x hx => ⟨rfl, by simp at hx; omega⟩)
  have HI1 := Lib.hid (ints_eq _ _ _ _ _ _ _ _ (nat_int (hp0.keep (belowA (Below.refl _ _) (.cells #[.int .i64 2] 3)))) (nat_int hq1))
  have HI2 : Hid (∀ W, Below w1.heap.size w1 W → Calls Try.prog 17 #[.slice B1 n1 d1, .slice (some ⟨W.heap.size, 0, none⟩) 2 2] (W.alloc (.cells #[.int .i64 0, .int .i64 1] 3)) (RetBool true (W.alloc (.cells #[.int .i64 0, .int .i64 1] 3)))) := fun W hW => by
    have hq2 : SliceIs Enc.nat (W.alloc (.cells #[.int .i64 0, .int .i64 1] 3)) (W.alloc (.cells #[.int .i64 0, .int .i64 1] 3)).heap.size (some ⟨W.heap.size, 0, none⟩) 2 2 [0, 1] :=
      SliceIs.of_block (fun n => [.int .i64 (n : Int)]) (fun _ => rfl) (Go.heap_alloc_new W _) rfl (by simp [reachN]) (fun x hx => ⟨rfl, by simp at hx; omega⟩)
    exact ints_eq _ _ _ _ _ _ _ _ (nat_int (hp1.keep (belowA hW (.cells #[.int .i64 0, .int .i64 1] 3)))) (nat_int hq2)
  have HK : Hid (∀ W, Below w1.heap.size w1 W → W.cell? ⟨b, o + 1, none⟩ = some (.slice B1 n1 d1) ∧ Below w.heap.size w W) := fun W hW => ⟨below_cell hW x1, HB1.out.trans (hW.mono HB1.out.size)⟩
  have x0' := cellA (o := .cells #[.int .i64 2] 3) x0
  have i0 : (0 : Int) < ((2 : Nat) : Int) := by omega
  have i1 : (1 : Int) < ((2 : Nat) : Int) := by omega
  clear hs hb1 hp0 hp1 hx0 hx1 hq1 hb
  go_wp2_with fail
  refine HI1.out.mono ?_
  rintro e w2 ⟨rfl, hb2⟩
  have hb3 : Below w1.heap.size w1 w2 := (belowA (Below.refl _ _) _ : Below w1.heap.size w1 _).trans (hb2.mono (by simp))
  obtain ⟨y1, hb4⟩ := HK.out w2 hb3
  have HB4 := Lib.hid hb4
  have HI3 := Lib.hid (HI2.out w2 hb3)
  have y2 := cellA (o := .cells #[.int .i64 0, .int .i64 1] 3) y1
  clear hb2 hb3 hb4
  go_wp2_with fail
  refine HI3.out.mono ?_
  rintro e w3 ⟨rfl, hb5⟩
  have HE : Hid (Below w.heap.size w w3) := HB4.out.trans ((belowA (Below.refl _ _) _ : Below w2.heap.size w2 _).mono HB4.out.size |>.trans (hb5.mono (by have := HB4.out.size; simp; omega)))
  clear hb5
  go_wp2_with fail
  go_ret
  exact ⟨rfl, HE.out⟩
end Go.Proofs.Ytdbpbchhkdconaa
