/- My own texts DgB6, as far as this claim needs them. -/
import Derived.Test.YtgphngjniplonaaGreatDoorZpb1
set_option linter.unusedVariables false
set_option linter.unusedSimpArgs false
set_option maxRecDepth 1000000
set_option maxHeartbeats 16000000
namespace Go.Proofs.YtgphngjniplonaaGreatDoor
open Go.RowKit
def DocPost (n : Int) (l : List GEdge) (w : World) (e : Ending) (w' : World) : Prop :=
  ∃ A c, e = .returned (.agg #[.int .i64 n, .slice A l.length c]) ∧ SliceIs Enc.edge w' w'.heap.size A l.length c l ∧ Below w.heap.size w w'
theorem document_any (n : Int) (A : Option Addr) (m c : Nat) (l : List GEdge) (w : World) (h : SliceIs Enc.edge w w.heap.size A m c l) (hm : m ≤ 10000) : Calls Tryz.prog 13 #[graphV n A m c] w (DocPost n l w) := by
  have HS := Lib.hid h
  have hlen : l.length = m := h.1
  have Hlen := Lib.hid hlen
  obtain ⟨P, HP⟩ : ∃ P : Ending → World → Prop, Hid (P = DocPost n l w) := ⟨_, rfl⟩
  rw [← HP.out]
  have cg0 : ((w.alloc (.cells #[.int .i64 n, .slice A m c] 31)).alloc (.cells #[.int .i64 0, .slice none 0 0] 35)).cell? ⟨w.heap.size, 0, none⟩ = some (.int .i64 n) := cellA ((cell_of_row _ _ 0 _ _ _ (heapNew (w := w) rfl)).trans rfl)
  clear h hlen
  go_enter Tryz.func13, Tryz.ntmps13
  have cg1 : (((w.alloc (.cells #[.int .i64 n, .slice A m c] 31)).alloc (.cells #[.int .i64 0, .slice none 0 0] 35)).alloc (.cells #[.int .i64 n, .slice none 0 0] 35)).cell? ⟨w.heap.size, 1, none⟩ = some (.slice A m c) := cellA (cellA ((cell_of_row _ _ 1 _ _ _ (heapNew (w := w) rfl)).trans rfl))
  go_wp2_with fail
  have hb0 : Below w.heap.size w (((w.alloc (.cells #[.int .i64 n, .slice A m c] 31)).alloc (.cells #[.int .i64 0, .slice none 0 0] 35)).alloc (.cells #[.int .i64 n, .slice none 0 0] 35)) := belowA (belowA (belowA (Below.refl _ _) _) _) _
  have hg2 : (((w.alloc (.cells #[.int .i64 n, .slice A m c] 31)).alloc (.cells #[.int .i64 0, .slice none 0 0] 35)).alloc (.cells #[.int .i64 n, .slice none 0 0] 35)).heap[w.heap.size + 1 + 1]? = some (.cells #[.int .i64 n, .slice none 0 0] 35 (0, 0)) := heapNew (by simp)
  have hg1 : (((w.alloc (.cells #[.int .i64 n, .slice A m c] 31)).alloc (.cells #[.int .i64 0, .slice none 0 0] 35)).alloc (.cells #[.int .i64 n, .slice none 0 0] 35)).heap[w.heap.size + 1]? = some (.cells #[.int .i64 0, .slice none 0 0] 35 (0, 0)) := heapOld (heapNew (by simp))
  generalize ((w.alloc (.cells #[.int .i64 n, .slice A m c] 31)).alloc (.cells #[.int .i64 0, .slice none 0 0] 35)).alloc (.cells #[.int .i64 n, .slice none 0 0] 35) = V at *
  have hlt1 : w.heap.size + 1 < w.heap.size + 1 + 1 := by omega
  have hlt0 : w.heap.size < w.heap.size + 1 := by omega
  generalize w.heap.size + 1 + 1 = r2 at *
  generalize w.heap.size + 1 = r1 at *
  have hV2 := (Array.getElem?_eq_some_iff.1 hg2).1
  have HB0 := Lib.hid hb0
  have HG1 := Lib.hid hg1
  have HG2 := Lib.hid hg2
  clear hb0 hg1 hg2 cg0 cg1
  go_loopw [5, 12] (fun _ i wr => ∃ (k : Nat) (Ao : Option Addr) (co : Nat), k ≤ m ∧ i = .int .i64 (k : Int) ∧ Hid (wr.heap[r2]? = some (.cells #[.int .i64 n, .slice Ao k co] 35 (0, 0))) ∧ Hid (wr.heap[r1]? = some (.cells #[.int .i64 0, .slice none 0 0] 35 (0, 0))) ∧ Hid (RowOf Enc.edge wr V.heap.size 49 (r1 :: r2 :: blkOf Ao) Ao k co (l.take k)) ∧ Hid (Below w.heap.size w wr) ∧ V.heap.size ≤ wr.heap.size) (fun _ i _ => m - (intOf i).toNat)
  case atStart => exact ⟨0, none, 0, by omega, rfl, HG2, HG1, RowOf.nil _, HB0, Nat.le_refl _⟩
  case round =>
    obtain ⟨k, Ao, co, hk, rfl, HR2, HR1, HRo, HB, hz⟩ := hrel
    have i0 : (0 : Int) ≤ (k : Int) := by omega
    by_cases hlt : k < m
    · have i1 : (k : Int) < (m : Int) := by omega
      obtain ⟨b, o, x, rfl, -, hx, x0, x1, x2, hfx⟩ := (HS.out.below HB.out).edge_at hlt
      have hAo : ∀ b ∈ blkOf Ao, V.heap.size ≤ b := fun b hb => (HRo.out.blk hb).1
      have hb1 : Below wr.heap.size wr (wr.alloc (.cells #[.int .i64 x.a, .int .i64 x.b, .bool x.n] 71)) := belowA (Below.refl _ _) _
      have hb2 : Below wr.heap.size wr ((wr.alloc (.cells #[.int .i64 x.a, .int .i64 x.b, .bool x.n] 71)).alloc (.cells #[.int .i64 x.a, .int .i64 x.b, .bool x.n] 49)) := belowA hb1 _
      have e0 : (wr.alloc (.cells #[.int .i64 x.a, .int .i64 x.b, .bool x.n] 71)).cell? ⟨wr.heap.size, 0, none⟩ = some (.int .i64 x.a) := (cell_of_row _ _ 0 _ _ _ (heapNew (w := wr) rfl)).trans rfl
      have e1 : (wr.alloc (.cells #[.int .i64 x.a, .int .i64 x.b, .bool x.n] 71)).cell? ⟨wr.heap.size, 1, none⟩ = some (.int .i64 x.b) := (cell_of_row _ _ 1 _ _ _ (heapNew (w := wr) rfl)).trans rfl
      have e2 : (wr.alloc (.cells #[.int .i64 x.a, .int .i64 x.b, .bool x.n] 71)).cell? ⟨wr.heap.size, 2, none⟩ = some (.bool x.n) := (cell_of_row _ _ 2 _ _ _ (heapNew (w := wr) rfl)).trans rfl
      have e3 : (wr.alloc (.cells #[.int .i64 x.a, .int .i64 x.b, .bool x.n] 71)).cell? ⟨r2, 1, none⟩ = some (.slice Ao k co) := cellA ((cell_of_row _ _ 1 _ _ _ HR2.out).trans rfl)
      have ha := HRo.out.below hb2
      have hok : Enc.edge.ok (sans ((wr.alloc (.cells #[.int .i64 x.a, .int .i64 x.b, .bool x.n] 71)).alloc (.cells #[.int .i64 x.a, .int .i64 x.b, .bool x.n] 49)) (r1 :: r2 :: blkOf Ao)) ((wr.alloc (.cells #[.int .i64 x.a, .int .i64 x.b, .bool x.n] 71)).alloc (.cells #[.int .i64 x.a, .int .i64 x.b, .bool x.n] 49)).heap.size [.int .i64 x.a, .int .i64 x.b, .bool x.n] x := ⟨rfl, hfx⟩
      obtain ⟨A2, c2, w2, u2, q2, o2, p2⟩ := ha.push (P := Tryz.prog) (t := 33) (ty := 33) Tryz.underlying33 info_redge rfl rfl (by decide) _ (wr.heap.size + 1) [.int .i64 x.a, .int .i64 x.b, .bool x.n] (heapNew (by simp)) hok (by intro u hu; simp at hu; rcases hu with rfl | rfl | rfl <;> rfl) (by simp [maxLen]; omega) (by omega) (by simp; omega) (fun b hb => List.mem_cons_of_mem _ (List.mem_cons_of_mem _ hb))
      have U2 := Lib.hid u2
      have hr2l := (Array.getElem?_eq_some_iff.1 HR2.out).1
      have hr2n : r2 ∉ blkOf Ao := fun hh => by have := hAo _ hh; omega
      have hr1n : r1 ∉ blkOf Ao := fun hh => by have := hAo _ hh; omega
      have hrow2 : w2.heap[r2]? = some (.cells #[.int .i64 n, .slice Ao k co] 35 (0, 0)) := (o2.block _ (by simp; omega) hr2n).trans (heapOld (heapOld HR2.out))
      have hrow1 : w2.heap[r1]? = some (.cells #[.int .i64 0, .slice none 0 0] 35 (0, 0)) := (o2.block _ (by simp; omega) hr1n).trans (heapOld (heapOld HR1.out))
      have d1 : w2.cell? ⟨r2, 1, none⟩ = some (.slice Ao k co) := (cell_of_row _ _ 1 _ _ _ hrow2).trans rfl
      have f1 : w2.frozen? ⟨r2, 1, none⟩ = false := frozen_of_row _ _ _ _ _ hrow2
      have hA2 : r2 ∉ blkOf A2 := fun hh => by
        rcases p2 _ hh with h3 | h3
        · exact hr2n h3
        · simp at h3; omega
      have HR2' : Hid ((w2.setCell ⟨r2, 1, none⟩ (.slice A2 (k + 1) c2)).heap[r2]? = some (.cells #[.int .i64 n, .slice A2 (k + 1) c2] 35 (0, 0))) := by
        show _ = _
        rw [set_cell8 hrow2]; rfl
      have HR1' : Hid ((w2.setCell ⟨r2, 1, none⟩ (.slice A2 (k + 1) c2)).heap[r1]? = some (.cells #[.int .i64 0, .slice none 0 0] 35 (0, 0))) := (World.heap_setCells_other' (show r1 ≠ r2 from by omega)).trans hrow1
      have HRo' : Hid (RowOf Enc.edge (w2.setCell ⟨r2, 1, none⟩ (.slice A2 (k + 1) c2)) V.heap.size 49 (r1 :: r2 :: blkOf A2) A2 (k + 1) c2 (l.take (k + 1))) := by
        have h1 := q2 (r1 :: r2 :: blkOf A2) (fun b hb hlt => by
          rcases List.mem_cons.1 hb with hb | hb
          · exact List.mem_cons.2 (.inl hb)
          · rcases List.mem_cons.1 hb with hb | hb
            · exact List.mem_cons_of_mem _ (List.mem_cons.2 (.inl hb))
            · rcases p2 b hb with hh | hh
              · exact List.mem_cons_of_mem _ (List.mem_cons_of_mem _ hh)
              · omega)
        have e : l.take (k + 1) = l.take k ++ [x] := by rw [List.take_add_one, hx.out]; rfl
        show RowOf _ _ _ _ _ _ _ _ _
        rw [e]
        exact h1.out (set_out w2 r2 1 _) (fun b hb hh => by simp at hh; subst hh; exact hA2 hb) (fun b hb _ => by simp at hb; simp [hb]) (fun b hb _ => hb)
      have HB' : Hid (Below w.heap.size w (w2.setCell ⟨r2, 1, none⟩ (.slice A2 (k + 1) c2))) := ((HB.out.trans (hb2.mono HB.out.size)).trans (o2.below (fun b hb => by have := hAo b hb; omega) (by have := HB.out.size; simp; omega))).setCell (show w.heap.size ≤ r2 from by omega) _
      have hz' : V.heap.size ≤ (w2.setCell ⟨r2, 1, none⟩ (.slice A2 (k + 1) c2)).heap.size := by have := o2.size; simp at this ⊢; omega
      clear hx hAo hb1 hb2 ha hok u2 q2 o2 p2 hr2n hr1n hrow2 hrow1 hA2 HR2 HR1 HRo HB hfx
      go_wp2_with (at_builtin; refine wpList_append_run (o := ⟨some 20, _, _, _, _, _⟩) rfl _ _ _ rfl _ _ rfl rfl U2.out ?_)
      go_roundw
      case rel => exact ⟨k + 1, A2, c2, by omega, by go_num, HR2', HR1', HRo', HB', hz'⟩
      case measure => simp [intOf]; omega
    · have i1 : ¬ (k : Int) < (m : Int) := by omega
      obtain rfl : k = m := by omega
      have d0 : wr.cell? ⟨r2, 0, none⟩ = some (.int .i64 n) := (cell_of_row _ _ 0 _ _ _ HR2.out).trans rfl
      have d1 : wr.cell? ⟨r2, 1, none⟩ = some (.slice Ao k co) := (cell_of_row _ _ 1 _ _ _ HR2.out).trans rfl
      have hrow1 := HR1.out
      have hsl := HRo.out.slice (T := [r1]) (by simp [reachN]; omega) (fun b hb hh => by have := (HRo.out.blk hb).1; simp at hh; omega) (fun b hh _ => by simp at hh; simp [hh])
      rw [List.take_of_length_le (by rw [Hlen.out]; omega)] at hsl
      have g1 : wr.cell? ⟨r1, 0, none⟩ = some (.int .i64 0) := (cell_of_row _ _ 0 _ _ _ hrow1).trans rfl
      have g2 : wr.cell? ⟨r1, 1, none⟩ = some (.slice none 0 0) := (cell_of_row _ _ 1 _ _ _ hrow1).trans rfl
      have f1 : ∀ o, wr.frozen? ⟨r1, o, none⟩ = false := fun o => frozen_of_row _ _ _ _ _ hrow1
      have f2 := f1 0
      have f3 := f1 1
      have HE : Hid (P (.returned (.agg #[.int .i64 n, .slice Ao k co])) ((wr.setCell ⟨r1, 0, none⟩ (.int .i64 n)).setCell ⟨r1, 1, none⟩ (.slice Ao k co))) := by
        show P _ _
        rw [HP.out]
        have ho : Out [r1] wr ((wr.setCell ⟨r1, 0, none⟩ (.int .i64 n)).setCell ⟨r1, 1, none⟩ (.slice Ao k co)) := (set_out wr r1 0 _).trans (set_out _ r1 1 _) (fun b hb _ => hb)
        have h9 := (SliceFar.out hsl ho (fun b hb _ => hb) (fun b hb _ => hb) : SliceFar Enc.edge _ [r1] Ao k co l).is
        unfold DocPost
        rw [Hlen.out]
        exact ⟨Ao, co, rfl, h9, HB.out.trans (ho.below (fun b hb => by simp at hb; omega) HB.out.size)⟩
      have hrw : ((wr.setCell ⟨r1, 0, none⟩ (.int .i64 n)).setCell ⟨r1, 1, none⟩ (.slice Ao k co)).heap[r1]? = some (.cells #[.int .i64 n, .slice Ao k co] 35 (0, 0)) := (set_cell8 (set_cell8 hrow1)).trans rfl
      have hx0 : ((wr.setCell ⟨r1, 0, none⟩ (.int .i64 n)).setCell ⟨r1, 1, none⟩ (.slice Ao k co)).cell? ⟨r1, 0, none⟩ = some (.int .i64 n) := (cell_of_row _ _ 0 _ _ _ hrw).trans rfl
      have hx1 : ((wr.setCell ⟨r1, 0, none⟩ (.int .i64 n)).setCell ⟨r1, 1, none⟩ (.slice Ao k co)).cell? ⟨r1, 1, none⟩ = some (.slice Ao k co) := (cell_of_row _ _ 1 _ _ _ hrw).trans rfl
      clear hsl hrow1 f1 hrw HR1 HR2 HRo
      go_wp2_with fail
      refine bodyPost_ret (v := .agg #[.int .i64 n, .slice Ao k co]) ?_ rfl HE.out
      simp [results, Tryz.results13, go_sem, hx0, hx1]
end Go.Proofs.YtgphngjniplonaaGreatDoor
namespace Go.Proofs.YtgphngjniplonaaGreatDoor
open Go.RowKit
def turnE (x : GEdge) : GEdge := ⟨x.b, x.a, x.n⟩
def turnL (l : List GEdge) : List GEdge := l.map turnE
def TurnPost (n : Int) (L : List GEdge) (w : World) (e : Ending) (w' : World) : Prop :=
  ∃ A k c, e = .returned (graphV n A k c) ∧ SliceIs Enc.edge w' w'.heap.size A k c L ∧ Below w.heap.size w w'
theorem turn_within {n : Int} {l : List GEdge} (hw : ∀ e ∈ l, withinE e n = true) : ∀ e ∈ turnL l, withinE e n = true := by
  intro e he
  obtain ⟨x, hx, rfl⟩ := List.mem_map.1 he
  have := hw x hx
  simp only [withinE, Bool.and_eq_true, turnE] at this ⊢
  exact ⟨⟨⟨this.1.2, this.2⟩, this.1.1.1⟩, this.1.1.2⟩
theorem turned_any (n : Int) (A : Option Addr) (m c : Nat) (l : List GEdge) (w : World) (h : SliceIs Enc.edge w w.heap.size A m c l) (hm : m ≤ 10000) (hr : rightG n l = true) :
    Calls Tryz.prog 17 #[graphV n A m c] w (TurnPost n (cpE (sortE (turnL l))) w) := by
  have hlen : l.length = m := h.1
  have Hlen := Lib.hid hlen
  have hn : 0 ≤ n ∧ n ≤ 32 := by
    have := hr
    simp only [rightG, Bool.and_eq_true, decide_eq_true_eq] at this
    exact ⟨this.1.1, this.1.2⟩
  have Hw : Hid (∀ e ∈ turnL l, withinE e n = true) := by
    obtain ⟨N, rfl⟩ : ∃ N : Nat, n = (N : Int) := ⟨n.toNat, by omega⟩
    exact turn_within (right_in hr)
  have Hn := Lib.hid hn
  have hb0 : Below w.heap.size w ((w.alloc (.cells #[.int .i64 n, .slice A m c] 31)).alloc (.cells #[.int .i64 0, .slice none 0 0] 31)) := belowA (belowA (Below.refl _ _) _) _
  have hg0 : ((w.alloc (.cells #[.int .i64 n, .slice A m c] 31)).alloc (.cells #[.int .i64 0, .slice none 0 0] 31)).heap[w.heap.size]? = some (.cells #[.int .i64 n, .slice A m c] 31 (0, 0)) := heapOld (heapNew rfl)
  have hg1 : ((w.alloc (.cells #[.int .i64 n, .slice A m c] 31)).alloc (.cells #[.int .i64 0, .slice none 0 0] 31)).heap[w.heap.size + 1]? = some (.cells #[.int .i64 0, .slice none 0 0] 31 (0, 0)) := heapNew (by simp)
  have c0 : ((w.alloc (.cells #[.int .i64 n, .slice A m c] 31)).alloc (.cells #[.int .i64 0, .slice none 0 0] 31)).cell? ⟨w.heap.size, 0, none⟩ = some (.int .i64 n) := (cell_of_row _ _ 0 _ _ _ hg0).trans rfl
  have c1 : ((w.alloc (.cells #[.int .i64 n, .slice A m c] 31)).alloc (.cells #[.int .i64 0, .slice none 0 0] 31)).cell? ⟨w.heap.size, 1, none⟩ = some (.slice A m c) := (cell_of_row _ _ 1 _ _ _ hg0).trans rfl
  have hR := rightG_any n A m c l _ (h.mono hb0.size hb0.block)
  rw [hr] at hR
  have HR := Lib.hid hR
  have HS := Lib.hid h
  have HB0 := Lib.hid hb0
  have HG0 := Lib.hid hg0
  have HG1 := Lib.hid hg1
  have HZ : Hid (((w.alloc (.cells #[.int .i64 n, .slice A m c] 31)).alloc (.cells #[.int .i64 0, .slice none 0 0] 31)).heap.size = w.heap.size + 2) := by show _ = _; simp
  obtain ⟨P, HP⟩ : ∃ P : Ending → World → Prop, Hid (P = TurnPost n (cpE (sortE (turnL l))) w) := ⟨_, rfl⟩
  rw [← HP.out]
  clear h hlen hn hb0 hg0 hg1 hR hr
  go_enter Tryz.func17, Tryz.ntmps17
  go_wp2_with fail
  refine HR.out.mono ?_
  rintro e V ⟨rfl, hbV⟩
  have hzV : w.heap.size + 2 ≤ V.heap.size := by have := hbV.size; rw [HZ.out] at this; exact this
  have HBV : Hid (Below w.heap.size w V) := HB0.out.trans (hbV.mono HB0.out.size)
  have HV0 : Hid (V.heap[w.heap.size]? = some (.cells #[.int .i64 n, .slice A m c] 31 (0, 0))) := (hbV.block _ (by rw [HZ.out]; omega)).trans HG0.out
  have HV1 : Hid (V.heap[w.heap.size + 1]? = some (.cells #[.int .i64 0, .slice none 0 0] 31 (0, 0))) := (hbV.block _ (by rw [HZ.out]; omega)).trans HG1.out
  have d1 : V.cell? ⟨w.heap.size, 1, none⟩ = some (.slice A m c) := (cell_of_row _ _ 1 _ _ _ HV0.out).trans rfl
  clear hbV HB0 HG0 HG1 HR c0 c1
  go_wp2_with fail
  go_loopw [3, 15] (fun vs vi wr => ∃ (k : Nat) (Ao : Option Addr) (co : Nat), k ≤ m ∧ vs = .slice Ao k co ∧ vi = .int .i64 (k : Int) ∧ Hid (RowOf Enc.edge wr V.heap.size 71 ((w.heap.size + 1) :: blkOf Ao) Ao k co ((turnL l).take k)) ∧ Hid (Below V.heap.size V wr)) (fun _ vi _ => m - (intOf vi).toNat)
  case atStart => exact ⟨0, none, 0, by omega, rfl, rfl, RowOf.nil _, Below.refl _ _⟩
  case round =>
    obtain ⟨k, Ao, co, hk, rfl, rfl, HRo, HB⟩ := hrel
    have i0 : (0 : Int) ≤ (k : Int) := by omega
    have HBw : Hid (Below w.heap.size w wr) := HBV.out.trans (HB.out.mono HBV.out.size)
    by_cases hlt : k < m
    · have i1 : (k : Int) < (m : Int) := by omega
      obtain ⟨b, o, x, rfl, -, hx, x0, x1, x2, hfx⟩ := (HS.out.below HBw.out).edge_at hlt
      have hb1 : Below wr.heap.size wr (wr.alloc (.cells #[.int .i64 x.a, .int .i64 x.b, .bool x.n] 71)) := belowA (Below.refl _ _) _
      have hb2 : Below wr.heap.size wr ((wr.alloc (.cells #[.int .i64 x.a, .int .i64 x.b, .bool x.n] 71)).alloc (.cells #[.int .i64 x.b, .int .i64 x.a, .bool x.n] 71)) := belowA hb1 _
      have e0 : (wr.alloc (.cells #[.int .i64 x.a, .int .i64 x.b, .bool x.n] 71)).cell? ⟨wr.heap.size, 0, none⟩ = some (.int .i64 x.a) := (cell_of_row _ _ 0 _ _ _ (heapNew (w := wr) rfl)).trans rfl
      have e1 : (wr.alloc (.cells #[.int .i64 x.a, .int .i64 x.b, .bool x.n] 71)).cell? ⟨wr.heap.size, 1, none⟩ = some (.int .i64 x.b) := (cell_of_row _ _ 1 _ _ _ (heapNew (w := wr) rfl)).trans rfl
      have e2 : (wr.alloc (.cells #[.int .i64 x.a, .int .i64 x.b, .bool x.n] 71)).cell? ⟨wr.heap.size, 2, none⟩ = some (.bool x.n) := (cell_of_row _ _ 2 _ _ _ (heapNew (w := wr) rfl)).trans rfl
      have hzr := HB.out.size
      have ha := HRo.out.below hb2
      have hok : Enc.edge.ok (sans ((wr.alloc (.cells #[.int .i64 x.a, .int .i64 x.b, .bool x.n] 71)).alloc (.cells #[.int .i64 x.b, .int .i64 x.a, .bool x.n] 71)) ((w.heap.size + 1) :: blkOf Ao)) ((wr.alloc (.cells #[.int .i64 x.a, .int .i64 x.b, .bool x.n] 71)).alloc (.cells #[.int .i64 x.b, .int .i64 x.a, .bool x.n] 71)).heap.size [.int .i64 x.b, .int .i64 x.a, .bool x.n] (turnE x) := ⟨rfl, hfx.2, hfx.1⟩
      obtain ⟨A2, c2, w2, u2, q2, o2, p2⟩ := ha.push (P := Tryz.prog) (t := 29) (ty := 29) Tryz.underlying29 info_edge rfl rfl (by decide) _ (wr.heap.size + 1) [.int .i64 x.b, .int .i64 x.a, .bool x.n] (heapNew (by simp)) hok (by intro u hu; simp at hu; rcases hu with rfl | rfl | rfl <;> rfl) (by simp [maxLen]; omega) (by omega) (by simp; omega) (fun b hb => List.mem_cons_of_mem _ hb)
      have U2 := Lib.hid u2
      have HRo' : Hid (RowOf Enc.edge w2 V.heap.size 71 ((w.heap.size + 1) :: blkOf A2) A2 (k + 1) c2 ((turnL l).take (k + 1))) := by
        have h1 := q2 ((w.heap.size + 1) :: blkOf A2) (fun b hb hlt => by
          rcases List.mem_cons.1 hb with hb | hb
          · exact List.mem_cons.2 (.inl hb)
          · rcases p2 b hb with hh | hh
            · exact List.mem_cons_of_mem _ hh
            · omega)
        have e : (turnL l).take (k + 1) = (turnL l).take k ++ [turnE x] := by
          have : (turnL l)[k]? = some (turnE x) := by unfold turnL; rw [List.getElem?_map, hx.out]; rfl
          rw [List.take_add_one, this]; rfl
        show RowOf _ _ _ _ _ _ _ _ _
        rw [e]
        exact h1
      have hAo : ∀ b ∈ blkOf Ao, V.heap.size ≤ b := fun b hb => (HRo.out.blk hb).1
      have HB' : Hid (Below V.heap.size V w2) := (HB.out.trans (hb2.mono HB.out.size)).trans (o2.below hAo (by have := HB.out.size; simp; omega))
      clear hx hAo hb1 hb2 ha hok u2 q2 o2 p2 HRo HB hfx
      go_wp2_with (at_builtin; refine wpList_append_run (o := ⟨some 28, _, _, _, _, _⟩) rfl _ _ _ rfl _ _ rfl rfl U2.out ?_)
      go_roundw
      case rel => exact ⟨k + 1, A2, c2, by omega, rfl, by go_num, HRo', HB'⟩
      case measure => simp [intOf]; omega
    · have i1 : ¬ (k : Int) < (m : Int) := by omega
      obtain rfl : k = m := by omega
      have hzr := HB.out.size
      have d0 : wr.cell? ⟨w.heap.size, 0, none⟩ = some (.int .i64 n) := (cell_of_row _ _ 0 _ _ _ ((HB.out.block _ (by omega)).trans HV0.out)).trans rfl
      have hsl := HRo.out.slice (T := [w.heap.size + 1]) (by simp [reachN]; omega) (fun b hb hh => by have := (HRo.out.blk hb).1; simp at hh; omega) (fun b hh _ => by simp at hh; simp [hh])
      rw [List.take_of_length_le (by unfold turnL; rw [List.length_map, Hlen.out]; exact Nat.le_refl _)] at hsl
      have HN := Lib.hid (new_any n Ao k co (turnL l) wr hsl.is hm Hn.out.1 Hn.out.2 Hw.out)
      clear hsl HRo
      go_wp2_with fail
      refine HN.out.mono ?_
      rintro e w1 ⟨A1, k1, c1, rfl, hs1, hb1, ha1⟩
      have hz1 := hb1.size
      have hW1 : w1.heap[w.heap.size + 1]? = some (.cells #[.int .i64 0, .slice none 0 0] 31 (0, 0)) := (hb1.block _ (by omega)).trans ((HB.out.block _ (by omega)).trans HV1.out)
      have hW2 : (w1.alloc (.cells #[.int .i64 n, .slice A1 k1 c1] 31)).heap[w.heap.size + 1]? = some (.cells #[.int .i64 0, .slice none 0 0] 31 (0, 0)) := heapOld hW1
      have e0 : (w1.alloc (.cells #[.int .i64 n, .slice A1 k1 c1] 31)).cell? ⟨w1.heap.size, 0, none⟩ = some (.int .i64 n) := (cell_of_row _ _ 0 _ _ _ (heapNew (w := w1) rfl)).trans rfl
      have e1 : (w1.alloc (.cells #[.int .i64 n, .slice A1 k1 c1] 31)).cell? ⟨w1.heap.size, 1, none⟩ = some (.slice A1 k1 c1) := (cell_of_row _ _ 1 _ _ _ (heapNew (w := w1) rfl)).trans rfl
      have f0 : (w1.alloc (.cells #[.int .i64 n, .slice A1 k1 c1] 31)).cell? ⟨w.heap.size + 1, 0, none⟩ = some (.int .i64 0) := (cell_of_row _ _ 0 _ _ _ hW2).trans rfl
      have f1 : (w1.alloc (.cells #[.int .i64 n, .slice A1 k1 c1] 31)).cell? ⟨w.heap.size + 1, 1, none⟩ = some (.slice none 0 0) := (cell_of_row _ _ 1 _ _ _ hW2).trans rfl
      have z0 : (w1.alloc (.cells #[.int .i64 n, .slice A1 k1 c1] 31)).frozen? ⟨w.heap.size + 1, 0, none⟩ = false := frozen_of_row _ _ _ _ _ hW2
      have z1 : (w1.alloc (.cells #[.int .i64 n, .slice A1 k1 c1] 31)).frozen? ⟨w.heap.size + 1, 1, none⟩ = false := frozen_of_row _ _ _ _ _ hW2
      have hs2 : SliceIs Enc.edge (w1.alloc (.cells #[.int .i64 n, .slice A1 k1 c1] 31)) (w1.alloc (.cells #[.int .i64 n, .slice A1 k1 c1] 31)).heap.size A1 k1 c1 (cpE (sortE (turnL l))) := hs1.keep (belowA (Below.refl _ _) _)
      have hb2 : Below w.heap.size w (w1.alloc (.cells #[.int .i64 n, .slice A1 k1 c1] 31)) := (HBw.out.trans (hb1.mono HBw.out.size)).alloc (by have := HBw.out.size; omega) _
      have hne : ∀ b ∈ blkOf A1, b ≠ w.heap.size + 1 := fun b hb => by have := ha1 b hb; omega
      clear hs1 hb1 ha1 hW1 d0 d1 HB HBw HN
      go_wp2_with fail
      generalize w1.alloc (.cells #[.int .i64 n, .slice A1 k1 c1] 31) = w2 at *
      have HE : Hid (P (.returned (graphV n A1 k1 c1)) ((w2.setCell ⟨w.heap.size + 1, 0, none⟩ (.int .i64 n)).setCell ⟨w.heap.size + 1, 1, none⟩ (.slice A1 k1 c1))) := by
        show P _ _
        rw [HP.out]
        refine ⟨A1, k1, c1, rfl, ?_, (hb2.setCell (show w.heap.size ≤ w.heap.size + 1 by omega) _).setCell (show w.heap.size ≤ w.heap.size + 1 by omega) _⟩
        have h1 := (hs2.set_other (o := 0) (val := .int .i64 n) hne).set_other (o := 1) (val := .slice A1 k1 c1) hne
        simpa using h1
      have g0 : ((w2.setCell ⟨w.heap.size + 1, 0, none⟩ (.int .i64 n)).setCell ⟨w.heap.size + 1, 1, none⟩ (.slice A1 k1 c1)).cell? ⟨w.heap.size + 1, 0, none⟩ = some (.int .i64 n) := by
        rw [World.cell?_setCell_other _ _ _ _ (by simp)]; exact World.cell?_setCell_same _ _ _ f0
      have g1 : ((w2.setCell ⟨w.heap.size + 1, 0, none⟩ (.int .i64 n)).setCell ⟨w.heap.size + 1, 1, none⟩ (.slice A1 k1 c1)).cell? ⟨w.heap.size + 1, 1, none⟩ = some (.slice A1 k1 c1) :=
        World.cell?_setCell_same _ _ _ ((World.cell?_setCell_other _ _ _ _ (by simp)).trans f1)
      refine bodyPost_ret (v := .agg #[.int .i64 n, .slice A1 k1 c1]) ?_ rfl HE.out
      simp [results, Tryz.results17, go_sem, g0, g1]
end Go.Proofs.YtgphngjniplonaaGreatDoor
namespace Go.Proofs.YtgphngjniplonaaGreatDoor
end Go.Proofs.YtgphngjniplonaaGreatDoor
