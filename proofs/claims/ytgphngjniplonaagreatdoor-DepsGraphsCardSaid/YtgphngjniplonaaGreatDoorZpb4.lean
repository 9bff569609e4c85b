/- My own texts DgTd, as far as this claim needs them. -/
import Derived.Test.YtgphngjniplonaaGreatDoorZp30
import Derived.Test.YtgphngjniplonaaGreatDoorZpb3
set_option linter.unusedVariables false
set_option linter.unusedSimpArgs false
set_option maxRecDepth 1000000
set_option maxHeartbeats 16000000
namespace Go.Proofs.YtgphngjniplonaaGreatDoor
open Go.RowKit
theorem turnE_ok {x : GEdge} (h : x.ok) : (turnE x).ok := ⟨h.2, h.1⟩
def RTdP (n : Int) (l : List GEdge) (w : World) (e : Ending) (w' : World) : Prop :=
 ∃ A m c, e = .returned (.agg #[.int .i64 n, .slice A m c]) ∧ SliceIs Enc.edge w' w'.heap.size A m c (putsE (turnL l)) ∧ Below w.heap.size w w'
theorem refTurned_any (n : Int) (A : Option Addr) (m c : Nat) (l : List GEdge) (w : World) (h : SliceIs Enc.edge w w.heap.size A m c l) (hm : m ≤ 4000) : Calls Tryz.prog 20 #[.agg #[.int .i64 n, .slice A m c]] w (RTdP n l w) := by
 have mixed : Tryz.prog.follows .mixedOrders = true := by kernel_rfl
 have HS := Lib.hid h
 have hlen : l.length = m := h.1
 have Hlen := Lib.hid hlen
 obtain ⟨P, HP⟩ : ∃ P : Ending → World → Prop, Hid (P = RTdP n l w) := ⟨_, rfl⟩
 rw [← HP.out]
 have cg0 : ((w.alloc (.cells #[.int .i64 n, .slice A m c] 35)).alloc (.cells #[.int .i64 0, .slice none 0 0] 35)).cell? ⟨w.heap.size, 0, none⟩ = some (.int .i64 n) := cellA ((cell_of_row _ _ 0 _ _ _ (heapNew (w := w) rfl)).trans rfl)
 clear h hlen
 go_enter Tryz.func20, Tryz.ntmps20
 go_wp2_with fail
 have hb0 : Below w.heap.size w (((w.alloc (.cells #[.int .i64 n, .slice A m c] 35)).alloc (.cells #[.int .i64 0, .slice none 0 0] 35)).alloc (.cells #[.int .i64 n, .slice none 0 0] 35)) := belowA (belowA (belowA (Below.refl _ _) _) _) _
 have hg2 : (((w.alloc (.cells #[.int .i64 n, .slice A m c] 35)).alloc (.cells #[.int .i64 0, .slice none 0 0] 35)).alloc (.cells #[.int .i64 n, .slice none 0 0] 35)).heap[w.heap.size + 1 + 1]? = some (.cells #[.int .i64 n, .slice none 0 0] 35 (0, 0)) := heapNew (by simp)
 have hg1 : (((w.alloc (.cells #[.int .i64 n, .slice A m c] 35)).alloc (.cells #[.int .i64 0, .slice none 0 0] 35)).alloc (.cells #[.int .i64 n, .slice none 0 0] 35)).heap[w.heap.size + 1]? = some (.cells #[.int .i64 0, .slice none 0 0] 35 (0, 0)) := heapOld (heapNew (by simp))
 have hg0 : (((w.alloc (.cells #[.int .i64 n, .slice A m c] 35)).alloc (.cells #[.int .i64 0, .slice none 0 0] 35)).alloc (.cells #[.int .i64 n, .slice none 0 0] 35)).heap[w.heap.size]? = some (.cells #[.int .i64 n, .slice A m c] 35 (0, 0)) := heapOld (heapOld (heapNew (by simp)))
 generalize ((w.alloc (.cells #[.int .i64 n, .slice A m c] 35)).alloc (.cells #[.int .i64 0, .slice none 0 0] 35)).alloc (.cells #[.int .i64 n, .slice none 0 0] 35) = V at *
 have hlt1 : w.heap.size + 1 < w.heap.size + 1 + 1 := by omega
 have hlt0 : w.heap.size < w.heap.size + 1 := by omega
 have hle0 : w.heap.size ≤ w.heap.size := Nat.le_refl _
 have HSw : Hid (∀ W, Below w.heap.size w W → SliceIs Enc.edge W w.heap.size A m c l) := fun W hW => HS.out.below hW
 have HFin : Hid (∀ W A' m' c', SliceIs Enc.edge W W.heap.size A' m' c' (putsE (turnL l)) → Below w.heap.size w W → P (.returned (.agg #[.int .i64 n, .slice A' m' c'])) W) := fun W A' m' c' h1 h2 => by
  show P _ _
  rw [HP.out]
  exact ⟨A', m', c', rfl, h1, h2⟩
 clear HP HS
 generalize w.heap.size + 1 + 1 = r2 at *
 generalize w.heap.size + 1 = r1 at *
 generalize w.heap.size = r0 at *
 have hV2 := (Array.getElem?_eq_some_iff.1 hg2).1
 have HB0 := Lib.hid hb0
 have HG0 := Lib.hid hg0
 have HG1 := Lib.hid hg1
 have HG2 := Lib.hid hg2
 clear hb0 hg0 hg1 hg2 cg0
 go_loopw [4] (fun i wr => ∃ (k : Nat) (Ao : Option Addr) (mo co : Nat), k ≤ m ∧ i = .int .i64 (k : Int) ∧ mo ≤ k ∧ Hid (wr.heap[r2]? = some (.cells #[.int .i64 n, .slice Ao mo co] 35 (0, 0))) ∧ Hid (wr.heap[r1]? = some (.cells #[.int .i64 0, .slice none 0 0] 35 (0, 0))) ∧ Hid (wr.heap[r0]? = some (.cells #[.int .i64 n, .slice A m c] 35 (0, 0))) ∧ Hid (SliceIs Enc.edge wr wr.heap.size Ao mo co (putsE ((turnL l).take k))) ∧ Hid (∀ b' ∈ blkOf Ao, V.heap.size ≤ b') ∧ Hid (Below r0 w wr) ∧ V.heap.size ≤ wr.heap.size) (fun i _ => m - (intOf i).toNat)
 case atStart => exact ⟨0, none, 0, 0, by omega, rfl, by omega, HG2, HG1, HG0, SliceIs.nil, (fun b' hb' => by cases hb'), HB0, Nat.le_refl _⟩
 case round =>
  obtain ⟨k, Ao, mo, co, hk, rfl, hmo, HR2, HR1, HR0, HSl, HAo, HB, hz⟩ := hrel
  have i0 : (0 : Int) ≤ (k : Int) := by omega
  have z0 : wr.cell? ⟨r0, 1, none⟩ = some (.slice A m c) := (cell_of_row _ _ 1 _ _ _ HR0.out).trans rfl
  have z1 : wr.cell? ⟨r2, 1, none⟩ = some (.slice Ao mo co) := (cell_of_row _ _ 1 _ _ _ HR2.out).trans rfl
  by_cases hlt : k < m
  ·have i1 : (k : Int) < (m : Int) := by omega
   obtain ⟨b, o, x, rfl, -, hx, x0, x1, x2, hfx⟩ := (HSw.out wr HB.out).edge_at hlt
   have HT : Hid (putsE ((turnL l).take (k + 1)) = putE (putsE ((turnL l).take k)) (turnE x)) := by
    show _ = _
    have e : (turnL l).take (k + 1) = (turnL l).take k ++ [turnE x] := by
     unfold turnL
     rw [List.take_add_one, List.getElem?_map, hx.out]; rfl
    rw [e, putsE_snoc]
   have HPut : Hid (∀ W, Below wr.heap.size wr W → Calls Tryz.prog 16 #[.slice Ao mo co, (turnE x).v] W (RPutP Ao (putsE ((turnL l).take k)) (turnE x) W)) := fun W hW => refPutE_any Ao mo co _ (turnE x) W (HSl.out.keep hW) (by omega) (turnE_ok hfx)
   clear hx hfx
   go_wp2_with fail
   refine drawnH mixed 23 39 [15, 16, 17, 18, 19, 20, 21, 22, 23, 24, 25, 26, 27, 28, 29, 30, 31, 32, 33, 34, 35, 36, 37] [some (.pointer (some ⟨r2, 1, none⟩)), some (.slice Ao mo co), some (.pointer (some ⟨r0, 1, none⟩)), some (.slice (some ⟨b, o, none⟩) m c), some (.int .i64 (k : Int)), some (.pointer (some ⟨b, o + k * 3, none⟩)), some (.pointer (some ⟨b, o + k * 3 + 1, none⟩)), some (.int .i64 x.b), some (.pointer (some ⟨r0, 1, none⟩)), some (.slice (some ⟨b, o, none⟩) m c), some (.int .i64 (k : Int)), some (.pointer (some ⟨b, o + k * 3, none⟩)), some (.pointer (some ⟨b, o + k * 3, none⟩)), some (.int .i64 x.a), some (.pointer (some ⟨r0, 1, none⟩)), some (.slice (some ⟨b, o, none⟩) m c), some (.int .i64 (k : Int)), some (.pointer (some ⟨b, o + k * 3, none⟩)), some (.pointer (some ⟨b, o + k * 3 + 2, none⟩)), some (.bool x.n), some ((turnE x).v), none, some (.pointer (some ⟨r2, 1, none⟩))] (fun i v W => ∃ A2 m2 c2, v = .slice A2 m2 c2 ∧ SliceIs Enc.edge W W.heap.size A2 m2 c2 (putE (putsE ((turnL l).take k)) (turnE x)) ∧ ∀ b' ∈ blkOf A2, V.heap.size ≤ b') rfl (by kernel_rfl) (by kernel_rfl) rfl (fun i v W W' h hb => by obtain ⟨A2, m2, c2, h1, h2, h3⟩ := h; exact ⟨A2, m2, c2, h1, h2.keep hb, h3⟩) ?_ ?_
   ·intro i o2 a2 W hi ho hd hold hG hw
    have hr1 : a2.tmps[1]? = some (.pointer (some ⟨r0, 0, none⟩)) := hold 1 (by kernel_rfl)
    have hr3 : a2.tmps[3]? = some (.pointer (some ⟨r2, 0, none⟩)) := hold 3 (by kernel_rfl)
    have hr4 : a2.tmps[4]? = some (.int .i64 (k : Int)) := hold 4 (by kernel_rfl)
    clear hold
    match i, hi, ho with
    | 0, _, ho =>
     injection ho with ho; subst ho
     exact .inl ⟨rfl, op_val _ (by simp [execOp, Act.eval, hr3, go_sem]) ⟨_, rfl, Below.refl _ _, rfl⟩⟩
    | 1, _, ho =>
     obtain ⟨v0, h0, e0⟩ := hw 0 15 (by kernel_rfl)
     obtain rfl : v0 = .pointer (some ⟨r2, 1, none⟩) := e0
     injection ho with ho; subst ho
     exact .inl ⟨rfl, op_val _ (by simp [execOp, Act.eval, h0, run_load1 Tryz.underlying33 (below_cell hG z1)]) ⟨_, rfl, Below.refl _ _, rfl⟩⟩
    | 2, _, ho =>
     injection ho with ho; subst ho
     exact .inl ⟨rfl, op_val _ (by simp [execOp, Act.eval, hr1, go_sem]) ⟨_, rfl, Below.refl _ _, rfl⟩⟩
    | 3, _, ho =>
     obtain ⟨v2, h2, e2⟩ := hw 2 17 (by kernel_rfl)
     obtain rfl : v2 = .pointer (some ⟨r0, 1, none⟩) := e2
     injection ho with ho; subst ho
     exact .inl ⟨rfl, op_val _ (by simp [execOp, Act.eval, h2, run_load1 Tryz.underlying33 (below_cell hG z0)]) ⟨_, rfl, Below.refl _ _, rfl⟩⟩
    | 4, _, ho =>
     injection ho with ho; subst ho
     exact .inl ⟨rfl, op_val _ (by simp [execOp, Act.eval, hr4, go_sem]) ⟨_, rfl, Below.refl _ _, rfl⟩⟩
    | 5, _, ho =>
     obtain ⟨v3, h3, e3⟩ := hw 3 18 (by kernel_rfl)
     obtain rfl : v3 = .slice (some ⟨b, o, none⟩) m c := e3
     obtain ⟨v4, h4, e4⟩ := hw 4 19 (by kernel_rfl)
     obtain rfl : v4 = .int .i64 (k : Int) := e4
     injection ho with ho; subst ho
     exact .inl ⟨rfl, op_val _ (by simp [execOp, Act.eval, h3, h4, go_sem, i0, i1]) ⟨_, rfl, Below.refl _ _, rfl⟩⟩
    | 6, _, ho =>
     obtain ⟨v5, h5, e5⟩ := hw 5 20 (by kernel_rfl)
     obtain rfl : v5 = .pointer (some ⟨b, o + k * 3, none⟩) := e5
     injection ho with ho; subst ho
     exact .inl ⟨rfl, op_val _ (by simp [execOp, Act.eval, h5, go_sem]) ⟨_, rfl, Below.refl _ _, rfl⟩⟩
    | 7, _, ho =>
     obtain ⟨v6, h6, e6⟩ := hw 6 21 (by kernel_rfl)
     obtain rfl : v6 = .pointer (some ⟨b, o + k * 3 + 1, none⟩) := e6
     injection ho with ho; subst ho
     exact .inl ⟨rfl, op_val _ (by simp [execOp, Act.eval, h6, go_sem, below_cell hG x1]) ⟨_, rfl, Below.refl _ _, rfl⟩⟩
    | 8, _, ho =>
     injection ho with ho; subst ho
     exact .inl ⟨rfl, op_val _ (by simp [execOp, Act.eval, hr1, go_sem]) ⟨_, rfl, Below.refl _ _, rfl⟩⟩
    | 9, _, ho =>
     obtain ⟨v8, h8, e8⟩ := hw 8 23 (by kernel_rfl)
     obtain rfl : v8 = .pointer (some ⟨r0, 1, none⟩) := e8
     injection ho with ho; subst ho
     exact .inl ⟨rfl, op_val _ (by simp [execOp, Act.eval, h8, run_load1 Tryz.underlying33 (below_cell hG z0)]) ⟨_, rfl, Below.refl _ _, rfl⟩⟩
    | 10, _, ho =>
     injection ho with ho; subst ho
     exact .inl ⟨rfl, op_val _ (by simp [execOp, Act.eval, hr4, go_sem]) ⟨_, rfl, Below.refl _ _, rfl⟩⟩
    | 11, _, ho =>
     obtain ⟨v9, h9, e9⟩ := hw 9 24 (by kernel_rfl)
     obtain rfl : v9 = .slice (some ⟨b, o, none⟩) m c := e9
     obtain ⟨v10, h10, e10⟩ := hw 10 25 (by kernel_rfl)
     obtain rfl : v10 = .int .i64 (k : Int) := e10
     injection ho with ho; subst ho
     exact .inl ⟨rfl, op_val _ (by simp [execOp, Act.eval, h9, h10, go_sem, i0, i1]) ⟨_, rfl, Below.refl _ _, rfl⟩⟩
    | 12, _, ho =>
     obtain ⟨v11, h11, e11⟩ := hw 11 26 (by kernel_rfl)
     obtain rfl : v11 = .pointer (some ⟨b, o + k * 3, none⟩) := e11
     injection ho with ho; subst ho
     exact .inl ⟨rfl, op_val _ (by simp [execOp, Act.eval, h11, go_sem]) ⟨_, rfl, Below.refl _ _, rfl⟩⟩
    | 13, _, ho =>
     obtain ⟨v12, h12, e12⟩ := hw 12 27 (by kernel_rfl)
     obtain rfl : v12 = .pointer (some ⟨b, o + k * 3, none⟩) := e12
     injection ho with ho; subst ho
     exact .inl ⟨rfl, op_val _ (by simp [execOp, Act.eval, h12, go_sem, below_cell hG x0]) ⟨_, rfl, Below.refl _ _, rfl⟩⟩
    | 14, _, ho =>
     injection ho with ho; subst ho
     exact .inl ⟨rfl, op_val _ (by simp [execOp, Act.eval, hr1, go_sem]) ⟨_, rfl, Below.refl _ _, rfl⟩⟩
    | 15, _, ho =>
     obtain ⟨v14, h14, e14⟩ := hw 14 29 (by kernel_rfl)
     obtain rfl : v14 = .pointer (some ⟨r0, 1, none⟩) := e14
     injection ho with ho; subst ho
     exact .inl ⟨rfl, op_val _ (by simp [execOp, Act.eval, h14, run_load1 Tryz.underlying33 (below_cell hG z0)]) ⟨_, rfl, Below.refl _ _, rfl⟩⟩
    | 16, _, ho =>
     injection ho with ho; subst ho
     exact .inl ⟨rfl, op_val _ (by simp [execOp, Act.eval, hr4, go_sem]) ⟨_, rfl, Below.refl _ _, rfl⟩⟩
    | 17, _, ho =>
     obtain ⟨v15, h15, e15⟩ := hw 15 30 (by kernel_rfl)
     obtain rfl : v15 = .slice (some ⟨b, o, none⟩) m c := e15
     obtain ⟨v16, h16, e16⟩ := hw 16 31 (by kernel_rfl)
     obtain rfl : v16 = .int .i64 (k : Int) := e16
     injection ho with ho; subst ho
     exact .inl ⟨rfl, op_val _ (by simp [execOp, Act.eval, h15, h16, go_sem, i0, i1]) ⟨_, rfl, Below.refl _ _, rfl⟩⟩
    | 18, _, ho =>
     obtain ⟨v17, h17, e17⟩ := hw 17 32 (by kernel_rfl)
     obtain rfl : v17 = .pointer (some ⟨b, o + k * 3, none⟩) := e17
     injection ho with ho; subst ho
     exact .inl ⟨rfl, op_val _ (by simp [execOp, Act.eval, h17, go_sem]) ⟨_, rfl, Below.refl _ _, rfl⟩⟩
    | 19, _, ho =>
     obtain ⟨v18, h18, e18⟩ := hw 18 33 (by kernel_rfl)
     obtain rfl : v18 = .pointer (some ⟨b, o + k * 3 + 2, none⟩) := e18
     injection ho with ho; subst ho
     exact .inl ⟨rfl, op_val _ (by simp [execOp, Act.eval, h18, go_sem, below_cell hG x2]) ⟨_, rfl, Below.refl _ _, rfl⟩⟩
    | 20, _, ho =>
     obtain ⟨v7, h7, e7⟩ := hw 7 22 (by kernel_rfl)
     obtain rfl : v7 = .int .i64 x.b := e7
     obtain ⟨v13, h13, e13⟩ := hw 13 28 (by kernel_rfl)
     obtain rfl : v13 = .int .i64 x.a := e13
     obtain ⟨v19, h19, e19⟩ := hw 19 34 (by kernel_rfl)
     obtain rfl : v19 = .bool x.n := e19
     injection ho with ho; subst ho
     exact .inl ⟨rfl, op_build 49 _ rfl [(0, .int .i64 x.b), (1, .int .i64 x.a), (2, .bool x.n)] (GEdge.cells (turnE x)).toArray (by simp [Act.eval, h7, h13, h19]) (by kernel_rfl) ⟨_, rfl, Below.refl _ _, rfl⟩⟩
    | 21, _, ho =>
     obtain ⟨v1, h1, e1⟩ := hw 1 16 (by kernel_rfl)
     obtain rfl : v1 = .slice Ao mo co := e1
     obtain ⟨v20, h20, e20⟩ := hw 20 35 (by kernel_rfl)
     obtain rfl : v20 = (turnE x).v := e20
     injection ho with ho; subst ho
     refine .inl ⟨rfl, op_call 16 _ rfl rfl #[.slice Ao mo co, (turnE x).v] (by simp [Act.eval, h1, h20]) _ Tryz.func16 (by kernel_rfl) (by kernel_rfl) ((HPut.out W hG).mono ?_)⟩
     rintro r w' ⟨A2, m2, c2, rfl, hs, hb, ha⟩
     exact ⟨_, rfl, _, rfl, hb, A2, m2, c2, rfl, hs, fun b' hb' => by
      rcases ha b' hb' with h | h
      ·exact HAo.out b' h
      ·exact Nat.le_trans hz (Nat.le_trans hG.size h)⟩
    | 22, _, ho =>
     injection ho with ho; subst ho
     exact .inl ⟨rfl, op_val _ (by simp [execOp, Act.eval, hr3, go_sem]) ⟨_, rfl, Below.refl _ _, rfl⟩⟩
    | n_ + 23, hi, _ => omega
   ·intro o2 u W ho hG hw
    obtain ⟨A2, m2, c2, e0, hs, ha⟩ := hw 21 36 (by decide) (by kernel_rfl)
    have e1 : u 37 = .pointer (some ⟨r2, 1, none⟩) := hw 22 37 (by decide) (by kernel_rfl)
    have hr2W := (hG.block _ (Array.getElem?_eq_some_iff.1 HR2.out).1).trans HR2.out
    have hr1W := (hG.block _ (Array.getElem?_eq_some_iff.1 HR1.out).1).trans HR1.out
    have hr0W := (hG.block _ (Array.getElem?_eq_some_iff.1 HR0.out).1).trans HR0.out
    have hne : ∀ b' ∈ blkOf A2, b' ≠ r2 := fun b' hb' => by have := ha b' hb'; omega
    have hm2 : m2 = (putE (putsE ((turnL l).take k)) (turnE x)).length := hs.1.symm
    have hmk : m2 ≤ k + 1 := by rw [hm2]; have := putE_len (putsE ((turnL l).take k)) (turnE x); have := (HSl.out).1; omega
    have HSl' : Hid (SliceIs Enc.edge (W.setCell ⟨r2, 1, none⟩ (.slice A2 m2 c2)) (W.setCell ⟨r2, 1, none⟩ (.slice A2 m2 c2)).heap.size A2 m2 c2 (putsE ((turnL l).take (k + 1)))) := by
     have h1 := hs.set_other (o := 1) (val := .slice A2 m2 c2) hne
     rw [← HT.out] at h1
     show SliceIs _ _ _ _ _ _ _
     simpa using h1
    have HR2' : Hid ((W.setCell ⟨r2, 1, none⟩ (.slice A2 m2 c2)).heap[r2]? = some (.cells #[.int .i64 n, .slice A2 m2 c2] 35 (0, 0))) := by
     show _ = _
     rw [set_cell8 hr2W]; rfl
    have HR1' : Hid ((W.setCell ⟨r2, 1, none⟩ (.slice A2 m2 c2)).heap[r1]? = some (.cells #[.int .i64 0, .slice none 0 0] 35 (0, 0))) := (World.heap_setCells_other' (show r1 ≠ r2 from by omega)).trans hr1W
    have HR0' : Hid ((W.setCell ⟨r2, 1, none⟩ (.slice A2 m2 c2)).heap[r0]? = some (.cells #[.int .i64 n, .slice (some ⟨b, o, none⟩) m c] 35 (0, 0))) := (World.heap_setCells_other' (show r0 ≠ r2 from by omega)).trans hr0W
    have HB' : Hid (Below r0 w (W.setCell ⟨r2, 1, none⟩ (.slice A2 m2 c2))) := (HB.out.trans (hG.mono (by omega))).setCell (show r0 ≤ r2 from by omega) _
    have HA' : Hid (∀ b' ∈ blkOf A2, V.heap.size ≤ b') := ha
    have hz' : V.heap.size ≤ (W.setCell ⟨r2, 1, none⟩ (.slice A2 m2 c2)).heap.size := by have := hG.size; simp; omega
    have hop : o2.op = .store 33 (.tmp 37) (.tmp 36) := by injection ho with ho; subst ho; rfl
    have hds : o2.dst = none := by injection ho with ho; subst ho; rfl
    clear ho
    simp only [List.foldl_cons, List.foldl_nil, Act.put, List.setIfInBounds_toArray, List.set_cons_zero, List.set_cons_succ]
    rw [e0, e1]
    have hst := run_store1 (P := Tryz.prog) (ty := 33) (g := r2) (q := 1) (A := A2) (n := m2) (c := c2) (by kernel_rfl) hr2W (by simp)
    refine op_skip (w' := W.setCell ⟨r2, 1, none⟩ (.slice A2 m2 c2)) (by simp [execOp, hop, Act.eval, hst]) ?_
    rw [hds]
    generalize W.setCell ⟨r2, 1, none⟩ (.slice A2 m2 c2) = W9 at *
    clear hs ha e0 e1 hr2W hr1W hr0W hne hm2 hw hG HR2 HR1 HR0 HB HSl HPut x0 x1 x2 z0 z1 HT HAo hop hds hst
    simp only [Act.put]
    go_wp2_with fail
    go_roundw
    case rel => exact ⟨k + 1, A2, m2, c2, by omega, by go_num, by omega, HR2', HR1', HR0', HSl', HA', HB', hz'⟩
    case measure => simp [intOf]; omega
  ·have i1 : ¬ (k : Int) < (m : Int) := by omega
   obtain rfl : k = m := by omega
   have d0 : wr.cell? ⟨r2, 0, none⟩ = some (.int .i64 n) := (cell_of_row _ _ 0 _ _ _ HR2.out).trans rfl
   have hrow1 := HR1.out
   have g1 : wr.cell? ⟨r1, 0, none⟩ = some (.int .i64 0) := (cell_of_row _ _ 0 _ _ _ hrow1).trans rfl
   have g2 : wr.cell? ⟨r1, 1, none⟩ = some (.slice none 0 0) := (cell_of_row _ _ 1 _ _ _ hrow1).trans rfl
   have f1 : ∀ o, wr.frozen? ⟨r1, o, none⟩ = false := fun o => frozen_of_row _ _ _ _ _ hrow1
   have f2 := f1 0
   have f3 := f1 1
   have hne : ∀ b' ∈ blkOf Ao, b' ≠ r1 := fun b' hb' => by have := HAo.out b' hb'; omega
   have hsl := (HSl.out.set_other (o := 0) (val := .int .i64 n) hne).set_other (o := 1) (val := .slice Ao mo co) hne
   rw [List.take_of_length_le (by unfold turnL; rw [List.length_map, Hlen.out]; exact Nat.le_refl _)] at hsl
   have HE : Hid (P (.returned (.agg #[.int .i64 n, .slice Ao mo co])) ((wr.setCell ⟨r1, 0, none⟩ (.int .i64 n)).setCell ⟨r1, 1, none⟩ (.slice Ao mo co))) :=
    HFin.out _ _ _ _ (by simpa using hsl) ((HB.out.setCell (show r0 ≤ r1 by omega) _).setCell (show r0 ≤ r1 by omega) _)
   have q0 : ((wr.setCell ⟨r1, 0, none⟩ (.int .i64 n)).setCell ⟨r1, 1, none⟩ (.slice Ao mo co)).cell? ⟨r1, 0, none⟩ = some (.int .i64 n) := by
    rw [World.cell?_setCell_other _ _ _ _ (by simp)]; exact World.cell?_setCell_same _ _ _ g1
   have q1 : ((wr.setCell ⟨r1, 0, none⟩ (.int .i64 n)).setCell ⟨r1, 1, none⟩ (.slice Ao mo co)).cell? ⟨r1, 1, none⟩ = some (.slice Ao mo co) :=
    World.cell?_setCell_same _ _ _ ((World.cell?_setCell_other _ _ _ _ (by simp)).trans g2)
   clear hsl hne HSl HAo HB HR2 HR1 HR0 f1 hrow1
   go_wp2_with fail
   refine bodyPost_ret (v := .agg #[.int .i64 n, .slice Ao mo co]) ?_ rfl HE.out
   simp [results, Tryz.results20, go_sem, q0, q1]
end Go.Proofs.YtgphngjniplonaaGreatDoor
