/- My own texts ArRSoB, as far as this claim needs them. -/
import Derived.Test.YtgabkmibfhmkmaaGreatDoorZe39
import Derived.Deep.RegionHeld3
set_option linter.unusedVariables false
set_option linter.unusedSimpArgs false
namespace Go.Proofs.YtgabkmibfhmkmaaGreatDoor
open Go.RowKit
set_option linter.unusedVariables false
theorem drew_heap (w : World) : w.drew.heap = w.heap := rfl
set_option maxRecDepth 100000 in
set_option maxHeartbeats 8000000 in
theorem refSolveBe (d : Nat) (x : GLit) (A : Option Addr) (n c : Nat) (P : Option Addr) (pn pc : Nat) (Q : Option Addr) (qn qc : Nat) (B : Option Addr) (bn bc : Nat) (l : List GTold) (w : World) (h : LitAt d w w.heap.size x ⟨A, n, c⟩ ⟨P, pn, pc⟩ ⟨Q, qn, qc⟩) (hl : SliceIs Enc.told w w.heap.size B bn bc l) (hn : bn ≤ 1000000) (hL : rightE 20 x.l = true) (hR : rightE 20 x.r = true) (hq : x.op = 1) (ha : aloneS (getT l) x.l = false) (hb : aloneS (getT l) x.r = true) (he : ¬ (evalS (getT l) 20 x.l).2 = 0) :
    Calls Tryz.prog 27 #[.agg #[.int .i64 x.k, .string x.atom.rel, .slice A n c, .int .i64 x.op, .int .i64 x.l.op, .string x.l.t.x, .int .i64 x.l.t.v.k, .int .i64 x.l.t.v.n, .string x.l.t.v.s, .slice P pn pc, .int .i64 x.r.op, .string x.r.t.x, .int .i64 x.r.t.v.k, .int .i64 x.r.t.v.n, .string x.r.t.v.s, .slice Q qn qc, .int .i64 x.pos], .slice B bn bc] w (RSolveP (getT l) (solveS (getT l) x.op x.l x.r) w) := by
  have mixed : Tryz.prog.follows .mixedOrders = true := by kernel_rfl
  have hba : Below w.heap.size w (w.alloc (.cells #[.int .i64 x.k, .string x.atom.rel, .slice A n c, .int .i64 x.op, .int .i64 x.l.op, .string x.l.t.x, .int .i64 x.l.t.v.k, .int .i64 x.l.t.v.n, .string x.l.t.v.s, .slice P pn pc, .int .i64 x.r.op, .string x.r.t.x, .int .i64 x.r.t.v.k, .int .i64 x.r.t.v.n, .string x.r.t.v.s, .slice Q qn qc, .int .i64 x.pos] 51)) := belowA (Below.refl _ _) _
  have hrb : (w.alloc (.cells #[.int .i64 x.k, .string x.atom.rel, .slice A n c, .int .i64 x.op, .int .i64 x.l.op, .string x.l.t.x, .int .i64 x.l.t.v.k, .int .i64 x.l.t.v.n, .string x.l.t.v.s, .slice P pn pc, .int .i64 x.r.op, .string x.r.t.x, .int .i64 x.r.t.v.k, .int .i64 x.r.t.v.n, .string x.r.t.v.s, .slice Q qn qc, .int .i64 x.pos] 51)).heap[w.heap.size]? = some (.cells #[.int .i64 x.k, .string x.atom.rel, .slice A n c, .int .i64 x.op, .int .i64 x.l.op, .string x.l.t.x, .int .i64 x.l.t.v.k, .int .i64 x.l.t.v.n, .string x.l.t.v.s, .slice P pn pc, .int .i64 x.r.op, .string x.r.t.x, .int .i64 x.r.t.v.k, .int .i64 x.r.t.v.n, .string x.r.t.v.s, .slice Q qn qc, .int .i64 x.pos] 51 (0, 0)) := heapNew rfl
  have HB := Lib.hid hba
  have HF : Hid (∀ W, Below (w.alloc (.cells #[.int .i64 x.k, .string x.atom.rel, .slice A n c, .int .i64 x.op, .int .i64 x.l.op, .string x.l.t.x, .int .i64 x.l.t.v.k, .int .i64 x.l.t.v.n, .string x.l.t.v.s, .slice P pn pc, .int .i64 x.r.op, .string x.r.t.x, .int .i64 x.r.t.v.k, .int .i64 x.r.t.v.n, .string x.r.t.v.s, .slice Q qn qc, .int .i64 x.pos] 51)).heap.size (w.alloc (.cells #[.int .i64 x.k, .string x.atom.rel, .slice A n c, .int .i64 x.op, .int .i64 x.l.op, .string x.l.t.x, .int .i64 x.l.t.v.k, .int .i64 x.l.t.v.n, .string x.l.t.v.s, .slice P pn pc, .int .i64 x.r.op, .string x.r.t.x, .int .i64 x.r.t.v.k, .int .i64 x.r.t.v.n, .string x.r.t.v.s, .slice Q qn qc, .int .i64 x.pos] 51)) W → RLitRow W w.heap.size x A n c P pn pc Q qn qc) := fun W hb => (hb.block _ (Array.getElem?_eq_some_iff.1 hrb).1).trans hrb
  have HAl := Lib.hid (fun (W : World) (hb : Below w.heap.size w W) => refAlone_any x.l P pn pc B bn bc l W h.lx (hl.keep hb))
  have HAr := Lib.hid (fun (W : World) (hb : Below w.heap.size w W) => refAlone_any x.r Q qn qc B bn bc l W h.rx (hl.keep hb))
  obtain ⟨f0, f1, f2, f3, f4, f5, f6, f7, f8, f9, f10, f11, f12, f13, f14, f15, f16⟩ := (HF.out _ (Below.refl _ _)).facts
  obtain ⟨K, HK⟩ : ∃ K : Ending → World → Prop, Hid (K = RSolveP (getT l) (solveS (getT l) x.op x.l x.r) w) := ⟨_, rfl⟩
  rw [← HK.out]
  have q0 : (x.op == 1) = true := by simp [hq]
  have hS : solveS (getT l) x.op x.l x.r = setS (getT l) x.r.t.x x.l := by unfold solveS; rw [if_neg (by simp [ha]), if_pos ⟨hq, hb⟩]
  have HE := Lib.hid (fun (W : World) (hb : Below w.heap.size w W) => refEval_any B bn bc l 20 x.l P pn pc d W hL (h.keep hb).lk h.lv (hl.keep hb))
  unfold TermErr errI at HE
  have HG : Hid (∀ w', Below w.heap.size w w' → K (.returned (.tuple #[.slice none 0 0, .bool false, .int .i64 (evalS (getT l) 20 x.l).2])) w') := fun w' hb => by rw [HK.out, hS, setS, if_pos he]; exact ⟨hb, .inr ⟨rfl, rfl⟩⟩
  have q1 : ((evalS (getT l) 20 x.l).2 != 0) = true := by simp [he]
  generalize evalS (getT l) 20 x.l = p at *
  obtain ⟨v, te⟩ := p
  dsimp only at HE HG q1
  rw [ha] at HAl
  rw [hb] at HAr
  clear hba hrb HK hS he hq h hl hL hR ha hb
  generalize hwb : (w.alloc (.cells #[.int .i64 x.k, .string x.atom.rel, .slice A n c, .int .i64 x.op, .int .i64 x.l.op, .string x.l.t.x, .int .i64 x.l.t.v.k, .int .i64 x.l.t.v.n, .string x.l.t.v.s, .slice P pn pc, .int .i64 x.r.op, .string x.r.t.x, .int .i64 x.r.t.v.k, .int .i64 x.r.t.v.n, .string x.r.t.v.s, .slice Q qn qc, .int .i64 x.pos] 51)) = wb at *
  have HB0 := Lib.hid (Below.refl wb.heap.size wb)
  go_enter Tryz.func27, Tryz.ntmps27
  go_wp2_with fail
  try simp only [hwb]
  clear hwb
  generalize (.agg #[.int .i64 x.k, .string x.atom.rel, .slice A n c, .int .i64 x.op, .int .i64 x.l.op, .string x.l.t.x, .int .i64 x.l.t.v.k, .int .i64 x.l.t.v.n, .string x.l.t.v.s, .slice P pn pc, .int .i64 x.r.op, .string x.r.t.x, .int .i64 x.r.t.v.k, .int .i64 x.r.t.v.n, .string x.r.t.v.s, .slice Q qn qc, .int .i64 x.pos] : Value) = LV0
  go_wp2_with fail
  refine (HAl.out _ (below_next HB.out HB0.out)).mono ?_
  rintro e w1 ⟨rfl, hb1⟩
  have HB1 := Lib.hid (below_next HB0.out hb1)
  obtain ⟨g0, g1, g2, g3, g4, g5, g6, g7, g8, g9, g10, g11, g12, g13, g14, g15, g16⟩ := (HF.out _ HB1.out).facts
  clear hb1 f0 f1 f2 f3 f4 f5 f6 f7 f8 f9 f10 f11 f12 f13 f14 f15 f16
  go_wp2_with fail
  refine (HAr.out _ (below_next HB.out HB1.out)).mono ?_
  rintro e w2 ⟨rfl, hb2⟩
  have HB2 := Lib.hid (below_next HB1.out hb2)
  obtain ⟨f0, f1, f2, f3, f4, f5, f6, f7, f8, f9, f10, f11, f12, f13, f14, f15, f16⟩ := (HF.out _ HB2.out).facts
  clear hb2 g0 g1 g2 g3 g4 g5 g6 g7 g8 g9 g10 g11 g12 g13 g14 g15 g16
  go_wp2_with fail
  have Hk : Hid (∀ W, Below w2.heap.size w2 W → W.cell? ⟨w.heap.size, 0, none⟩ = some (.int .i64 x.k) ∧ W.cell? ⟨w.heap.size, 1, none⟩ = some (.string x.atom.rel) ∧ W.cell? ⟨w.heap.size, 2, none⟩ = some (.slice A n c) ∧ W.cell? ⟨w.heap.size, 3, none⟩ = some (.int .i64 x.op) ∧ W.cell? ⟨w.heap.size, 4, none⟩ = some (.int .i64 x.l.op) ∧ W.cell? ⟨w.heap.size, 5, none⟩ = some (.string x.l.t.x) ∧ W.cell? ⟨w.heap.size, 6, none⟩ = some (.int .i64 x.l.t.v.k) ∧ W.cell? ⟨w.heap.size, 7, none⟩ = some (.int .i64 x.l.t.v.n) ∧ W.cell? ⟨w.heap.size, 8, none⟩ = some (.string x.l.t.v.s) ∧ W.cell? ⟨w.heap.size, 9, none⟩ = some (.slice P pn pc) ∧ W.cell? ⟨w.heap.size, 10, none⟩ = some (.int .i64 x.r.op) ∧ W.cell? ⟨w.heap.size, 11, none⟩ = some (.string x.r.t.x) ∧ W.cell? ⟨w.heap.size, 12, none⟩ = some (.int .i64 x.r.t.v.k) ∧ W.cell? ⟨w.heap.size, 13, none⟩ = some (.int .i64 x.r.t.v.n) ∧ W.cell? ⟨w.heap.size, 14, none⟩ = some (.string x.r.t.v.s) ∧ W.cell? ⟨w.heap.size, 15, none⟩ = some (.slice Q qn qc) ∧ W.cell? ⟨w.heap.size, 16, none⟩ = some (.int .i64 x.pos)) := fun W h => (HF.out _ (below_next HB2.out h)).facts
  have hq1 := Below.refl w2.heap.size w2
  go_region_held3 (fun W => W.cell? ⟨w.heap.size, 0, none⟩ = some (.int .i64 x.k) ∧ W.cell? ⟨w.heap.size, 1, none⟩ = some (.string x.atom.rel) ∧ W.cell? ⟨w.heap.size, 2, none⟩ = some (.slice A n c) ∧ W.cell? ⟨w.heap.size, 3, none⟩ = some (.int .i64 x.op) ∧ W.cell? ⟨w.heap.size, 4, none⟩ = some (.int .i64 x.l.op) ∧ W.cell? ⟨w.heap.size, 5, none⟩ = some (.string x.l.t.x) ∧ W.cell? ⟨w.heap.size, 6, none⟩ = some (.int .i64 x.l.t.v.k) ∧ W.cell? ⟨w.heap.size, 7, none⟩ = some (.int .i64 x.l.t.v.n) ∧ W.cell? ⟨w.heap.size, 8, none⟩ = some (.string x.l.t.v.s) ∧ W.cell? ⟨w.heap.size, 9, none⟩ = some (.slice P pn pc) ∧ W.cell? ⟨w.heap.size, 10, none⟩ = some (.int .i64 x.r.op) ∧ W.cell? ⟨w.heap.size, 11, none⟩ = some (.string x.r.t.x) ∧ W.cell? ⟨w.heap.size, 12, none⟩ = some (.int .i64 x.r.t.v.k) ∧ W.cell? ⟨w.heap.size, 13, none⟩ = some (.int .i64 x.r.t.v.n) ∧ W.cell? ⟨w.heap.size, 14, none⟩ = some (.string x.r.t.v.s) ∧ W.cell? ⟨w.heap.size, 15, none⟩ = some (.slice Q qn qc) ∧ W.cell? ⟨w.heap.size, 16, none⟩ = some (.int .i64 x.pos))
    (first
      | (refine Hk.out _ ?_; (repeat (first | with_reducible exact Below.refl _ _ | with_reducible assumption | with_reducible refine Below.drew ?_ | with_reducible refine belowA ?_ _ | with_reducible refine Below.setCell ?_ (Nat.le_refl _) _)); done)
      | go_keep)
    (fail)
  have hb3 : Below wb.heap.size wb (w2.alloc (.cells #[.int .i64 x.r.op, .string x.r.t.x, .int .i64 x.r.t.v.k, .int .i64 x.r.t.v.n, .string x.r.t.v.s, .slice Q qn qc] 49)).drew := below_next HB2.out ((belowA hq1 _).drew)
  have hrw : (w2.alloc (.cells #[.int .i64 x.r.op, .string x.r.t.x, .int .i64 x.r.t.v.k, .int .i64 x.r.t.v.n, .string x.r.t.v.s, .slice Q qn qc] 49)).drew.heap[w2.heap.size]? = some (.cells #[.int .i64 x.r.op, .string x.r.t.x, .int .i64 x.r.t.v.k, .int .i64 x.r.t.v.n, .string x.r.t.v.s, .slice Q qn qc] 49 (0, 0)) := heapNew2 rfl
  generalize (w2.alloc (.cells #[.int .i64 x.r.op, .string x.r.t.x, .int .i64 x.r.t.v.k, .int .i64 x.r.t.v.n, .string x.r.t.v.s, .slice Q qn qc] 49)).drew = w3 at *
  have HB3 := Lib.hid hb3
  obtain ⟨s0, s1, s2, s3, s4, s5, s6, s7, s8, s9, s10, s11, s12, s13, s14, s15, s16⟩ := (HF.out _ hb3).facts
  clear f0 f1 f2 f3 f4 f5 f6 f7 f8 f9 f10 f11 f12 f13 f14 f15 f16 hq1 hb3 Hk
  have Hrw := Lib.hid hrw
  clear hrw
  go_wp2_with fail
  refine (HAl.out _ (below_next HB.out HB3.out)).mono ?_
  rintro e w4 ⟨rfl, hb4⟩
  have hrw4 := (hb4.block _ (Array.getElem?_eq_some_iff.1 Hrw.out).1).trans Hrw.out
  have HB4 := Lib.hid (below_next HB3.out hb4)
  obtain ⟨f0, f1, f2, f3, f4, f5, f6, f7, f8, f9, f10, f11, f12, f13, f14, f15, f16⟩ := (HF.out _ HB4.out).facts
  obtain ⟨y0, y1, y2, y3, y4, y5⟩ := facts6 hrw4
  obtain ⟨z0, z1, z2, z3, z4, z5⟩ := frz6 hrw4
  clear s0 s1 s2 s3 s4 s5 s6 s7 s8 s9 s10 s11 s12 s13 s14 s15 s16 hb4
  go_wp2_with fail
  have hlt4 : wb.heap.size ≤ w2.heap.size := HB2.out.size
  have Hk : Hid (∀ W, Below wb.heap.size wb W → W.cell? ⟨w.heap.size, 0, none⟩ = some (.int .i64 x.k) ∧ W.cell? ⟨w.heap.size, 1, none⟩ = some (.string x.atom.rel) ∧ W.cell? ⟨w.heap.size, 2, none⟩ = some (.slice A n c) ∧ W.cell? ⟨w.heap.size, 3, none⟩ = some (.int .i64 x.op) ∧ W.cell? ⟨w.heap.size, 4, none⟩ = some (.int .i64 x.l.op) ∧ W.cell? ⟨w.heap.size, 5, none⟩ = some (.string x.l.t.x) ∧ W.cell? ⟨w.heap.size, 6, none⟩ = some (.int .i64 x.l.t.v.k) ∧ W.cell? ⟨w.heap.size, 7, none⟩ = some (.int .i64 x.l.t.v.n) ∧ W.cell? ⟨w.heap.size, 8, none⟩ = some (.string x.l.t.v.s) ∧ W.cell? ⟨w.heap.size, 9, none⟩ = some (.slice P pn pc) ∧ W.cell? ⟨w.heap.size, 10, none⟩ = some (.int .i64 x.r.op) ∧ W.cell? ⟨w.heap.size, 11, none⟩ = some (.string x.r.t.x) ∧ W.cell? ⟨w.heap.size, 12, none⟩ = some (.int .i64 x.r.t.v.k) ∧ W.cell? ⟨w.heap.size, 13, none⟩ = some (.int .i64 x.r.t.v.n) ∧ W.cell? ⟨w.heap.size, 14, none⟩ = some (.string x.r.t.v.s) ∧ W.cell? ⟨w.heap.size, 15, none⟩ = some (.slice Q qn qc) ∧ W.cell? ⟨w.heap.size, 16, none⟩ = some (.int .i64 x.pos)) := fun W h => (HF.out _ h).facts
  have hq1 := HB4.out
  go_region_held3 (fun W => W.cell? ⟨w.heap.size, 0, none⟩ = some (.int .i64 x.k) ∧ W.cell? ⟨w.heap.size, 1, none⟩ = some (.string x.atom.rel) ∧ W.cell? ⟨w.heap.size, 2, none⟩ = some (.slice A n c) ∧ W.cell? ⟨w.heap.size, 3, none⟩ = some (.int .i64 x.op) ∧ W.cell? ⟨w.heap.size, 4, none⟩ = some (.int .i64 x.l.op) ∧ W.cell? ⟨w.heap.size, 5, none⟩ = some (.string x.l.t.x) ∧ W.cell? ⟨w.heap.size, 6, none⟩ = some (.int .i64 x.l.t.v.k) ∧ W.cell? ⟨w.heap.size, 7, none⟩ = some (.int .i64 x.l.t.v.n) ∧ W.cell? ⟨w.heap.size, 8, none⟩ = some (.string x.l.t.v.s) ∧ W.cell? ⟨w.heap.size, 9, none⟩ = some (.slice P pn pc) ∧ W.cell? ⟨w.heap.size, 10, none⟩ = some (.int .i64 x.r.op) ∧ W.cell? ⟨w.heap.size, 11, none⟩ = some (.string x.r.t.x) ∧ W.cell? ⟨w.heap.size, 12, none⟩ = some (.int .i64 x.r.t.v.k) ∧ W.cell? ⟨w.heap.size, 13, none⟩ = some (.int .i64 x.r.t.v.n) ∧ W.cell? ⟨w.heap.size, 14, none⟩ = some (.string x.r.t.v.s) ∧ W.cell? ⟨w.heap.size, 15, none⟩ = some (.slice Q qn qc) ∧ W.cell? ⟨w.heap.size, 16, none⟩ = some (.int .i64 x.pos))
    (first
      | (refine Hk.out _ ?_; (repeat (first | with_reducible exact Below.refl _ _ | with_reducible assumption | with_reducible refine Below.drew ?_ | with_reducible refine belowA ?_ _ | with_reducible refine Below.setCell ?_ hlt4 _)); done)
      | go_keep)
    (fail)
  have hb5 : Below wb.heap.size wb ((((((w4.setCell ⟨w2.heap.size, 0, none⟩ (.int .i64 x.l.op)).setCell ⟨w2.heap.size, 1, none⟩ (.string x.l.t.x)).setCell ⟨w2.heap.size, 2, none⟩ (.int .i64 x.l.t.v.k)).setCell ⟨w2.heap.size, 3, none⟩ (.int .i64 x.l.t.v.n)).setCell ⟨w2.heap.size, 4, none⟩ (.string x.l.t.v.s)).setCell ⟨w2.heap.size, 5, none⟩ (.slice P pn pc)).drew := ((((((hq1.setCell hlt4 _).setCell hlt4 _).setCell hlt4 _).setCell hlt4 _).setCell hlt4 _).setCell hlt4 _).drew
  have st0 : (w4.setCell ⟨w2.heap.size, 0, none⟩ (.int .i64 x.l.op)).heap[w2.heap.size]? = some (.cells #[.int .i64 x.l.op, .string x.r.t.x, .int .i64 x.r.t.v.k, .int .i64 x.r.t.v.n, .string x.r.t.v.s, .slice Q qn qc] 49 (0, 0)) := row_set (i := 0) _ hrw4
  have st1 : ((w4.setCell ⟨w2.heap.size, 0, none⟩ (.int .i64 x.l.op)).setCell ⟨w2.heap.size, 1, none⟩ (.string x.l.t.x)).heap[w2.heap.size]? = some (.cells #[.int .i64 x.l.op, .string x.l.t.x, .int .i64 x.r.t.v.k, .int .i64 x.r.t.v.n, .string x.r.t.v.s, .slice Q qn qc] 49 (0, 0)) := row_set (i := 1) _ st0
  have st2 : (((w4.setCell ⟨w2.heap.size, 0, none⟩ (.int .i64 x.l.op)).setCell ⟨w2.heap.size, 1, none⟩ (.string x.l.t.x)).setCell ⟨w2.heap.size, 2, none⟩ (.int .i64 x.l.t.v.k)).heap[w2.heap.size]? = some (.cells #[.int .i64 x.l.op, .string x.l.t.x, .int .i64 x.l.t.v.k, .int .i64 x.r.t.v.n, .string x.r.t.v.s, .slice Q qn qc] 49 (0, 0)) := row_set (i := 2) _ st1
  have st3 : ((((w4.setCell ⟨w2.heap.size, 0, none⟩ (.int .i64 x.l.op)).setCell ⟨w2.heap.size, 1, none⟩ (.string x.l.t.x)).setCell ⟨w2.heap.size, 2, none⟩ (.int .i64 x.l.t.v.k)).setCell ⟨w2.heap.size, 3, none⟩ (.int .i64 x.l.t.v.n)).heap[w2.heap.size]? = some (.cells #[.int .i64 x.l.op, .string x.l.t.x, .int .i64 x.l.t.v.k, .int .i64 x.l.t.v.n, .string x.r.t.v.s, .slice Q qn qc] 49 (0, 0)) := row_set (i := 3) _ st2
  have st4 : (((((w4.setCell ⟨w2.heap.size, 0, none⟩ (.int .i64 x.l.op)).setCell ⟨w2.heap.size, 1, none⟩ (.string x.l.t.x)).setCell ⟨w2.heap.size, 2, none⟩ (.int .i64 x.l.t.v.k)).setCell ⟨w2.heap.size, 3, none⟩ (.int .i64 x.l.t.v.n)).setCell ⟨w2.heap.size, 4, none⟩ (.string x.l.t.v.s)).heap[w2.heap.size]? = some (.cells #[.int .i64 x.l.op, .string x.l.t.x, .int .i64 x.l.t.v.k, .int .i64 x.l.t.v.n, .string x.l.t.v.s, .slice Q qn qc] 49 (0, 0)) := row_set (i := 4) _ st3
  have st5 : ((((((w4.setCell ⟨w2.heap.size, 0, none⟩ (.int .i64 x.l.op)).setCell ⟨w2.heap.size, 1, none⟩ (.string x.l.t.x)).setCell ⟨w2.heap.size, 2, none⟩ (.int .i64 x.l.t.v.k)).setCell ⟨w2.heap.size, 3, none⟩ (.int .i64 x.l.t.v.n)).setCell ⟨w2.heap.size, 4, none⟩ (.string x.l.t.v.s)).setCell ⟨w2.heap.size, 5, none⟩ (.slice P pn pc)).heap[w2.heap.size]? = some (.cells #[.int .i64 x.l.op, .string x.l.t.x, .int .i64 x.l.t.v.k, .int .i64 x.l.t.v.n, .string x.l.t.v.s, .slice P pn pc] 49 (0, 0)) := row_set (i := 5) _ st4
  have hrw5 : ((((((w4.setCell ⟨w2.heap.size, 0, none⟩ (.int .i64 x.l.op)).setCell ⟨w2.heap.size, 1, none⟩ (.string x.l.t.x)).setCell ⟨w2.heap.size, 2, none⟩ (.int .i64 x.l.t.v.k)).setCell ⟨w2.heap.size, 3, none⟩ (.int .i64 x.l.t.v.n)).setCell ⟨w2.heap.size, 4, none⟩ (.string x.l.t.v.s)).setCell ⟨w2.heap.size, 5, none⟩ (.slice P pn pc)).drew.heap[w2.heap.size]? = some (.cells #[.int .i64 x.l.op, .string x.l.t.x, .int .i64 x.l.t.v.k, .int .i64 x.l.t.v.n, .string x.l.t.v.s, .slice P pn pc] 49 (0, 0)) := by rw [drew_heap]; exact st5
  clear st0 st1 st2 st3 st4 st5
  generalize ((((((w4.setCell ⟨w2.heap.size, 0, none⟩ (.int .i64 x.l.op)).setCell ⟨w2.heap.size, 1, none⟩ (.string x.l.t.x)).setCell ⟨w2.heap.size, 2, none⟩ (.int .i64 x.l.t.v.k)).setCell ⟨w2.heap.size, 3, none⟩ (.int .i64 x.l.t.v.n)).setCell ⟨w2.heap.size, 4, none⟩ (.string x.l.t.v.s)).setCell ⟨w2.heap.size, 5, none⟩ (.slice P pn pc)).drew = w5 at *
  have HB5 := Lib.hid hb5
  obtain ⟨k0, k1, k2, k3, k4, k5⟩ := facts6 hrw5
  clear f0 f1 f2 f3 f4 f5 f6 f7 f8 f9 f10 f11 f12 f13 f14 f15 f16 y0 y1 y2 y3 y4 y5 z0 z1 z2 z3 z4 z5 hrw4 hrw5 hb5 hq1 Hk hlt4
  go_wp2_with fail
  refine (HE.out _ (below_next HB.out HB5.out)).mono ?_
  rintro e w6 ⟨rfl, hb6⟩
  have HB6 := Lib.hid (belowA (below_next HB5.out hb6) (.cells #[.int .i64 v.k, .int .i64 v.n, .string v.s] 28))
  clear hb6
  go_wp2_with fail
  exact bodyPost_ret (v := .tuple #[.slice none 0 0, .bool false, .int .i64 te]) (by simp [results, Tryz.results27, go_sem]) rfl (HG.out _ (below_next HB.out HB6.out))
set_option maxRecDepth 100000 in
set_option maxHeartbeats 8000000 in
theorem refSolveBt (d : Nat) (x : GLit) (A : Option Addr) (n c : Nat) (P : Option Addr) (pn pc : Nat) (Q : Option Addr) (qn qc : Nat) (B : Option Addr) (bn bc : Nat) (l : List GTold) (w : World) (h : LitAt d w w.heap.size x ⟨A, n, c⟩ ⟨P, pn, pc⟩ ⟨Q, qn, qc⟩) (hl : SliceIs Enc.told w w.heap.size B bn bc l) (hn : bn ≤ 1000000) (hL : rightE 20 x.l = true) (hR : rightE 20 x.r = true) (hq : x.op = 1) (ha : aloneS (getT l) x.l = false) (hb : aloneS (getT l) x.r = true) (he : (evalS (getT l) 20 x.l).2 = 0) :
    Calls Tryz.prog 27 #[.agg #[.int .i64 x.k, .string x.atom.rel, .slice A n c, .int .i64 x.op, .int .i64 x.l.op, .string x.l.t.x, .int .i64 x.l.t.v.k, .int .i64 x.l.t.v.n, .string x.l.t.v.s, .slice P pn pc, .int .i64 x.r.op, .string x.r.t.x, .int .i64 x.r.t.v.k, .int .i64 x.r.t.v.n, .string x.r.t.v.s, .slice Q qn qc, .int .i64 x.pos], .slice B bn bc] w (RSolveP (getT l) (solveS (getT l) x.op x.l x.r) w) := by
  have mixed : Tryz.prog.follows .mixedOrders = true := by kernel_rfl
  have hba : Below w.heap.size w (w.alloc (.cells #[.int .i64 x.k, .string x.atom.rel, .slice A n c, .int .i64 x.op, .int .i64 x.l.op, .string x.l.t.x, .int .i64 x.l.t.v.k, .int .i64 x.l.t.v.n, .string x.l.t.v.s, .slice P pn pc, .int .i64 x.r.op, .string x.r.t.x, .int .i64 x.r.t.v.k, .int .i64 x.r.t.v.n, .string x.r.t.v.s, .slice Q qn qc, .int .i64 x.pos] 51)) := belowA (Below.refl _ _) _
  have hrb : (w.alloc (.cells #[.int .i64 x.k, .string x.atom.rel, .slice A n c, .int .i64 x.op, .int .i64 x.l.op, .string x.l.t.x, .int .i64 x.l.t.v.k, .int .i64 x.l.t.v.n, .string x.l.t.v.s, .slice P pn pc, .int .i64 x.r.op, .string x.r.t.x, .int .i64 x.r.t.v.k, .int .i64 x.r.t.v.n, .string x.r.t.v.s, .slice Q qn qc, .int .i64 x.pos] 51)).heap[w.heap.size]? = some (.cells #[.int .i64 x.k, .string x.atom.rel, .slice A n c, .int .i64 x.op, .int .i64 x.l.op, .string x.l.t.x, .int .i64 x.l.t.v.k, .int .i64 x.l.t.v.n, .string x.l.t.v.s, .slice P pn pc, .int .i64 x.r.op, .string x.r.t.x, .int .i64 x.r.t.v.k, .int .i64 x.r.t.v.n, .string x.r.t.v.s, .slice Q qn qc, .int .i64 x.pos] 51 (0, 0)) := heapNew rfl
  have HB := Lib.hid hba
  have HF : Hid (∀ W, Below (w.alloc (.cells #[.int .i64 x.k, .string x.atom.rel, .slice A n c, .int .i64 x.op, .int .i64 x.l.op, .string x.l.t.x, .int .i64 x.l.t.v.k, .int .i64 x.l.t.v.n, .string x.l.t.v.s, .slice P pn pc, .int .i64 x.r.op, .string x.r.t.x, .int .i64 x.r.t.v.k, .int .i64 x.r.t.v.n, .string x.r.t.v.s, .slice Q qn qc, .int .i64 x.pos] 51)).heap.size (w.alloc (.cells #[.int .i64 x.k, .string x.atom.rel, .slice A n c, .int .i64 x.op, .int .i64 x.l.op, .string x.l.t.x, .int .i64 x.l.t.v.k, .int .i64 x.l.t.v.n, .string x.l.t.v.s, .slice P pn pc, .int .i64 x.r.op, .string x.r.t.x, .int .i64 x.r.t.v.k, .int .i64 x.r.t.v.n, .string x.r.t.v.s, .slice Q qn qc, .int .i64 x.pos] 51)) W → RLitRow W w.heap.size x A n c P pn pc Q qn qc) := fun W hb => (hb.block _ (Array.getElem?_eq_some_iff.1 hrb).1).trans hrb
  have HAl := Lib.hid (fun (W : World) (hb : Below w.heap.size w W) => refAlone_any x.l P pn pc B bn bc l W h.lx (hl.keep hb))
  have HAr := Lib.hid (fun (W : World) (hb : Below w.heap.size w W) => refAlone_any x.r Q qn qc B bn bc l W h.rx (hl.keep hb))
  obtain ⟨f0, f1, f2, f3, f4, f5, f6, f7, f8, f9, f10, f11, f12, f13, f14, f15, f16⟩ := (HF.out _ (Below.refl _ _)).facts
  obtain ⟨K, HK⟩ : ∃ K : Ending → World → Prop, Hid (K = RSolveP (getT l) (solveS (getT l) x.op x.l x.r) w) := ⟨_, rfl⟩
  rw [← HK.out]
  have q0 : (x.op == 1) = true := by simp [hq]
  have hS : solveS (getT l) x.op x.l x.r = setS (getT l) x.r.t.x x.l := by unfold solveS; rw [if_neg (by simp [ha]), if_pos ⟨hq, hb⟩]
  have HE := Lib.hid (fun (W : World) (hb : Below w.heap.size w W) => refEval_any B bn bc l 20 x.l P pn pc d W hL (h.keep hb).lk h.lv (hl.keep hb))
  unfold TermErr errI at HE
  have hnone : getT l x.r.t.x = none := (aloneS_val hb).2.2
  have hok := rightB_ok (evalS_ok he)
  have HSe := Lib.hid (fun (W : World) (hb : Below w.heap.size w W) => set_any B bn bc l x.r.t.x (evalS (getT l) 20 x.l).1 W (hl.keep hb) hn h.rx hok (told_ok hl))
  unfold SetPost at HSe
  have HG : Hid (∀ w' A2 n2 c2, Below w.heap.size w w' → SliceIs Enc.told w' w'.heap.size A2 n2 c2 (l ++ [⟨x.r.t.x, (evalS (getT l) 20 x.l).1⟩]) → K (.returned (.tuple #[.slice A2 n2 c2, .bool true, .int .i64 0])) w') := fun w' A2 n2 c2 hb hs => by rw [HK.out, hS, setS, if_neg (by simpa using he)]; exact ⟨hb, .inl ⟨rfl, rfl, A2, n2, c2, _, rfl, hs, getT_snoc hnone⟩⟩
  rw [he] at HE
  clear hnone hok
  generalize evalS (getT l) 20 x.l = p at *
  obtain ⟨v, te⟩ := p
  dsimp only at HE HG HSe
  rw [ha] at HAl
  rw [hb] at HAr
  clear hba hrb HK hS he hq h hl hL hR ha hb
  generalize hwb : (w.alloc (.cells #[.int .i64 x.k, .string x.atom.rel, .slice A n c, .int .i64 x.op, .int .i64 x.l.op, .string x.l.t.x, .int .i64 x.l.t.v.k, .int .i64 x.l.t.v.n, .string x.l.t.v.s, .slice P pn pc, .int .i64 x.r.op, .string x.r.t.x, .int .i64 x.r.t.v.k, .int .i64 x.r.t.v.n, .string x.r.t.v.s, .slice Q qn qc, .int .i64 x.pos] 51)) = wb at *
  have HB0 := Lib.hid (Below.refl wb.heap.size wb)
  go_enter Tryz.func27, Tryz.ntmps27
  go_wp2_with fail
  try simp only [hwb]
  clear hwb
  generalize (.agg #[.int .i64 x.k, .string x.atom.rel, .slice A n c, .int .i64 x.op, .int .i64 x.l.op, .string x.l.t.x, .int .i64 x.l.t.v.k, .int .i64 x.l.t.v.n, .string x.l.t.v.s, .slice P pn pc, .int .i64 x.r.op, .string x.r.t.x, .int .i64 x.r.t.v.k, .int .i64 x.r.t.v.n, .string x.r.t.v.s, .slice Q qn qc, .int .i64 x.pos] : Value) = LV0
  go_wp2_with fail
  refine (HAl.out _ (below_next HB.out HB0.out)).mono ?_
  rintro e w1 ⟨rfl, hb1⟩
  have HB1 := Lib.hid (below_next HB0.out hb1)
  obtain ⟨g0, g1, g2, g3, g4, g5, g6, g7, g8, g9, g10, g11, g12, g13, g14, g15, g16⟩ := (HF.out _ HB1.out).facts
  clear hb1 f0 f1 f2 f3 f4 f5 f6 f7 f8 f9 f10 f11 f12 f13 f14 f15 f16
  go_wp2_with fail
  refine (HAr.out _ (below_next HB.out HB1.out)).mono ?_
  rintro e w2 ⟨rfl, hb2⟩
  have HB2 := Lib.hid (below_next HB1.out hb2)
  obtain ⟨f0, f1, f2, f3, f4, f5, f6, f7, f8, f9, f10, f11, f12, f13, f14, f15, f16⟩ := (HF.out _ HB2.out).facts
  clear hb2 g0 g1 g2 g3 g4 g5 g6 g7 g8 g9 g10 g11 g12 g13 g14 g15 g16
  go_wp2_with fail
  have Hk : Hid (∀ W, Below w2.heap.size w2 W → W.cell? ⟨w.heap.size, 0, none⟩ = some (.int .i64 x.k) ∧ W.cell? ⟨w.heap.size, 1, none⟩ = some (.string x.atom.rel) ∧ W.cell? ⟨w.heap.size, 2, none⟩ = some (.slice A n c) ∧ W.cell? ⟨w.heap.size, 3, none⟩ = some (.int .i64 x.op) ∧ W.cell? ⟨w.heap.size, 4, none⟩ = some (.int .i64 x.l.op) ∧ W.cell? ⟨w.heap.size, 5, none⟩ = some (.string x.l.t.x) ∧ W.cell? ⟨w.heap.size, 6, none⟩ = some (.int .i64 x.l.t.v.k) ∧ W.cell? ⟨w.heap.size, 7, none⟩ = some (.int .i64 x.l.t.v.n) ∧ W.cell? ⟨w.heap.size, 8, none⟩ = some (.string x.l.t.v.s) ∧ W.cell? ⟨w.heap.size, 9, none⟩ = some (.slice P pn pc) ∧ W.cell? ⟨w.heap.size, 10, none⟩ = some (.int .i64 x.r.op) ∧ W.cell? ⟨w.heap.size, 11, none⟩ = some (.string x.r.t.x) ∧ W.cell? ⟨w.heap.size, 12, none⟩ = some (.int .i64 x.r.t.v.k) ∧ W.cell? ⟨w.heap.size, 13, none⟩ = some (.int .i64 x.r.t.v.n) ∧ W.cell? ⟨w.heap.size, 14, none⟩ = some (.string x.r.t.v.s) ∧ W.cell? ⟨w.heap.size, 15, none⟩ = some (.slice Q qn qc) ∧ W.cell? ⟨w.heap.size, 16, none⟩ = some (.int .i64 x.pos)) := fun W h => (HF.out _ (below_next HB2.out h)).facts
  have hq1 := Below.refl w2.heap.size w2
  go_region_held3 (fun W => W.cell? ⟨w.heap.size, 0, none⟩ = some (.int .i64 x.k) ∧ W.cell? ⟨w.heap.size, 1, none⟩ = some (.string x.atom.rel) ∧ W.cell? ⟨w.heap.size, 2, none⟩ = some (.slice A n c) ∧ W.cell? ⟨w.heap.size, 3, none⟩ = some (.int .i64 x.op) ∧ W.cell? ⟨w.heap.size, 4, none⟩ = some (.int .i64 x.l.op) ∧ W.cell? ⟨w.heap.size, 5, none⟩ = some (.string x.l.t.x) ∧ W.cell? ⟨w.heap.size, 6, none⟩ = some (.int .i64 x.l.t.v.k) ∧ W.cell? ⟨w.heap.size, 7, none⟩ = some (.int .i64 x.l.t.v.n) ∧ W.cell? ⟨w.heap.size, 8, none⟩ = some (.string x.l.t.v.s) ∧ W.cell? ⟨w.heap.size, 9, none⟩ = some (.slice P pn pc) ∧ W.cell? ⟨w.heap.size, 10, none⟩ = some (.int .i64 x.r.op) ∧ W.cell? ⟨w.heap.size, 11, none⟩ = some (.string x.r.t.x) ∧ W.cell? ⟨w.heap.size, 12, none⟩ = some (.int .i64 x.r.t.v.k) ∧ W.cell? ⟨w.heap.size, 13, none⟩ = some (.int .i64 x.r.t.v.n) ∧ W.cell? ⟨w.heap.size, 14, none⟩ = some (.string x.r.t.v.s) ∧ W.cell? ⟨w.heap.size, 15, none⟩ = some (.slice Q qn qc) ∧ W.cell? ⟨w.heap.size, 16, none⟩ = some (.int .i64 x.pos))
    (first
      | (refine Hk.out _ ?_; (repeat (first | with_reducible exact Below.refl _ _ | with_reducible assumption | with_reducible refine Below.drew ?_ | with_reducible refine belowA ?_ _ | with_reducible refine Below.setCell ?_ (Nat.le_refl _) _)); done)
      | go_keep)
    (fail)
  have hb3 : Below wb.heap.size wb (w2.alloc (.cells #[.int .i64 x.r.op, .string x.r.t.x, .int .i64 x.r.t.v.k, .int .i64 x.r.t.v.n, .string x.r.t.v.s, .slice Q qn qc] 49)).drew := below_next HB2.out ((belowA hq1 _).drew)
  have hrw : (w2.alloc (.cells #[.int .i64 x.r.op, .string x.r.t.x, .int .i64 x.r.t.v.k, .int .i64 x.r.t.v.n, .string x.r.t.v.s, .slice Q qn qc] 49)).drew.heap[w2.heap.size]? = some (.cells #[.int .i64 x.r.op, .string x.r.t.x, .int .i64 x.r.t.v.k, .int .i64 x.r.t.v.n, .string x.r.t.v.s, .slice Q qn qc] 49 (0, 0)) := heapNew2 rfl
  generalize (w2.alloc (.cells #[.int .i64 x.r.op, .string x.r.t.x, .int .i64 x.r.t.v.k, .int .i64 x.r.t.v.n, .string x.r.t.v.s, .slice Q qn qc] 49)).drew = w3 at *
  have HB3 := Lib.hid hb3
  obtain ⟨s0, s1, s2, s3, s4, s5, s6, s7, s8, s9, s10, s11, s12, s13, s14, s15, s16⟩ := (HF.out _ hb3).facts
  clear f0 f1 f2 f3 f4 f5 f6 f7 f8 f9 f10 f11 f12 f13 f14 f15 f16 hq1 hb3 Hk
  have Hrw := Lib.hid hrw
  clear hrw
  go_wp2_with fail
  refine (HAl.out _ (below_next HB.out HB3.out)).mono ?_
  rintro e w4 ⟨rfl, hb4⟩
  have hrw4 := (hb4.block _ (Array.getElem?_eq_some_iff.1 Hrw.out).1).trans Hrw.out
  have HB4 := Lib.hid (below_next HB3.out hb4)
  obtain ⟨f0, f1, f2, f3, f4, f5, f6, f7, f8, f9, f10, f11, f12, f13, f14, f15, f16⟩ := (HF.out _ HB4.out).facts
  obtain ⟨y0, y1, y2, y3, y4, y5⟩ := facts6 hrw4
  obtain ⟨z0, z1, z2, z3, z4, z5⟩ := frz6 hrw4
  clear s0 s1 s2 s3 s4 s5 s6 s7 s8 s9 s10 s11 s12 s13 s14 s15 s16 hb4
  go_wp2_with fail
  have hlt4 : wb.heap.size ≤ w2.heap.size := HB2.out.size
  have Hk : Hid (∀ W, Below wb.heap.size wb W → W.cell? ⟨w.heap.size, 0, none⟩ = some (.int .i64 x.k) ∧ W.cell? ⟨w.heap.size, 1, none⟩ = some (.string x.atom.rel) ∧ W.cell? ⟨w.heap.size, 2, none⟩ = some (.slice A n c) ∧ W.cell? ⟨w.heap.size, 3, none⟩ = some (.int .i64 x.op) ∧ W.cell? ⟨w.heap.size, 4, none⟩ = some (.int .i64 x.l.op) ∧ W.cell? ⟨w.heap.size, 5, none⟩ = some (.string x.l.t.x) ∧ W.cell? ⟨w.heap.size, 6, none⟩ = some (.int .i64 x.l.t.v.k) ∧ W.cell? ⟨w.heap.size, 7, none⟩ = some (.int .i64 x.l.t.v.n) ∧ W.cell? ⟨w.heap.size, 8, none⟩ = some (.string x.l.t.v.s) ∧ W.cell? ⟨w.heap.size, 9, none⟩ = some (.slice P pn pc) ∧ W.cell? ⟨w.heap.size, 10, none⟩ = some (.int .i64 x.r.op) ∧ W.cell? ⟨w.heap.size, 11, none⟩ = some (.string x.r.t.x) ∧ W.cell? ⟨w.heap.size, 12, none⟩ = some (.int .i64 x.r.t.v.k) ∧ W.cell? ⟨w.heap.size, 13, none⟩ = some (.int .i64 x.r.t.v.n) ∧ W.cell? ⟨w.heap.size, 14, none⟩ = some (.string x.r.t.v.s) ∧ W.cell? ⟨w.heap.size, 15, none⟩ = some (.slice Q qn qc) ∧ W.cell? ⟨w.heap.size, 16, none⟩ = some (.int .i64 x.pos)) := fun W h => (HF.out _ h).facts
  have hq1 := HB4.out
  go_region_held3 (fun W => W.cell? ⟨w.heap.size, 0, none⟩ = some (.int .i64 x.k) ∧ W.cell? ⟨w.heap.size, 1, none⟩ = some (.string x.atom.rel) ∧ W.cell? ⟨w.heap.size, 2, none⟩ = some (.slice A n c) ∧ W.cell? ⟨w.heap.size, 3, none⟩ = some (.int .i64 x.op) ∧ W.cell? ⟨w.heap.size, 4, none⟩ = some (.int .i64 x.l.op) ∧ W.cell? ⟨w.heap.size, 5, none⟩ = some (.string x.l.t.x) ∧ W.cell? ⟨w.heap.size, 6, none⟩ = some (.int .i64 x.l.t.v.k) ∧ W.cell? ⟨w.heap.size, 7, none⟩ = some (.int .i64 x.l.t.v.n) ∧ W.cell? ⟨w.heap.size, 8, none⟩ = some (.string x.l.t.v.s) ∧ W.cell? ⟨w.heap.size, 9, none⟩ = some (.slice P pn pc) ∧ W.cell? ⟨w.heap.size, 10, none⟩ = some (.int .i64 x.r.op) ∧ W.cell? ⟨w.heap.size, 11, none⟩ = some (.string x.r.t.x) ∧ W.cell? ⟨w.heap.size, 12, none⟩ = some (.int .i64 x.r.t.v.k) ∧ W.cell? ⟨w.heap.size, 13, none⟩ = some (.int .i64 x.r.t.v.n) ∧ W.cell? ⟨w.heap.size, 14, none⟩ = some (.string x.r.t.v.s) ∧ W.cell? ⟨w.heap.size, 15, none⟩ = some (.slice Q qn qc) ∧ W.cell? ⟨w.heap.size, 16, none⟩ = some (.int .i64 x.pos))
    (first
      | (refine Hk.out _ ?_; (repeat (first | with_reducible exact Below.refl _ _ | with_reducible assumption | with_reducible refine Below.drew ?_ | with_reducible refine belowA ?_ _ | with_reducible refine Below.setCell ?_ hlt4 _)); done)
      | go_keep)
    (fail)
  have hb5 : Below wb.heap.size wb ((((((w4.setCell ⟨w2.heap.size, 0, none⟩ (.int .i64 x.l.op)).setCell ⟨w2.heap.size, 1, none⟩ (.string x.l.t.x)).setCell ⟨w2.heap.size, 2, none⟩ (.int .i64 x.l.t.v.k)).setCell ⟨w2.heap.size, 3, none⟩ (.int .i64 x.l.t.v.n)).setCell ⟨w2.heap.size, 4, none⟩ (.string x.l.t.v.s)).setCell ⟨w2.heap.size, 5, none⟩ (.slice P pn pc)).drew := ((((((hq1.setCell hlt4 _).setCell hlt4 _).setCell hlt4 _).setCell hlt4 _).setCell hlt4 _).setCell hlt4 _).drew
  have st0 : (w4.setCell ⟨w2.heap.size, 0, none⟩ (.int .i64 x.l.op)).heap[w2.heap.size]? = some (.cells #[.int .i64 x.l.op, .string x.r.t.x, .int .i64 x.r.t.v.k, .int .i64 x.r.t.v.n, .string x.r.t.v.s, .slice Q qn qc] 49 (0, 0)) := row_set (i := 0) _ hrw4
  have st1 : ((w4.setCell ⟨w2.heap.size, 0, none⟩ (.int .i64 x.l.op)).setCell ⟨w2.heap.size, 1, none⟩ (.string x.l.t.x)).heap[w2.heap.size]? = some (.cells #[.int .i64 x.l.op, .string x.l.t.x, .int .i64 x.r.t.v.k, .int .i64 x.r.t.v.n, .string x.r.t.v.s, .slice Q qn qc] 49 (0, 0)) := row_set (i := 1) _ st0
  have st2 : (((w4.setCell ⟨w2.heap.size, 0, none⟩ (.int .i64 x.l.op)).setCell ⟨w2.heap.size, 1, none⟩ (.string x.l.t.x)).setCell ⟨w2.heap.size, 2, none⟩ (.int .i64 x.l.t.v.k)).heap[w2.heap.size]? = some (.cells #[.int .i64 x.l.op, .string x.l.t.x, .int .i64 x.l.t.v.k, .int .i64 x.r.t.v.n, .string x.r.t.v.s, .slice Q qn qc] 49 (0, 0)) := row_set (i := 2) _ st1
  have st3 : ((((w4.setCell ⟨w2.heap.size, 0, none⟩ (.int .i64 x.l.op)).setCell ⟨w2.heap.size, 1, none⟩ (.string x.l.t.x)).setCell ⟨w2.heap.size, 2, none⟩ (.int .i64 x.l.t.v.k)).setCell ⟨w2.heap.size, 3, none⟩ (.int .i64 x.l.t.v.n)).heap[w2.heap.size]? = some (.cells #[.int .i64 x.l.op, .string x.l.t.x, .int .i64 x.l.t.v.k, .int .i64 x.l.t.v.n, .string x.r.t.v.s, .slice Q qn qc] 49 (0, 0)) := row_set (i := 3) _ st2
  have st4 : (((((w4.setCell ⟨w2.heap.size, 0, none⟩ (.int .i64 x.l.op)).setCell ⟨w2.heap.size, 1, none⟩ (.string x.l.t.x)).setCell ⟨w2.heap.size, 2, none⟩ (.int .i64 x.l.t.v.k)).setCell ⟨w2.heap.size, 3, none⟩ (.int .i64 x.l.t.v.n)).setCell ⟨w2.heap.size, 4, none⟩ (.string x.l.t.v.s)).heap[w2.heap.size]? = some (.cells #[.int .i64 x.l.op, .string x.l.t.x, .int .i64 x.l.t.v.k, .int .i64 x.l.t.v.n, .string x.l.t.v.s, .slice Q qn qc] 49 (0, 0)) := row_set (i := 4) _ st3
  have st5 : ((((((w4.setCell ⟨w2.heap.size, 0, none⟩ (.int .i64 x.l.op)).setCell ⟨w2.heap.size, 1, none⟩ (.string x.l.t.x)).setCell ⟨w2.heap.size, 2, none⟩ (.int .i64 x.l.t.v.k)).setCell ⟨w2.heap.size, 3, none⟩ (.int .i64 x.l.t.v.n)).setCell ⟨w2.heap.size, 4, none⟩ (.string x.l.t.v.s)).setCell ⟨w2.heap.size, 5, none⟩ (.slice P pn pc)).heap[w2.heap.size]? = some (.cells #[.int .i64 x.l.op, .string x.l.t.x, .int .i64 x.l.t.v.k, .int .i64 x.l.t.v.n, .string x.l.t.v.s, .slice P pn pc] 49 (0, 0)) := row_set (i := 5) _ st4
  have hrw5 : ((((((w4.setCell ⟨w2.heap.size, 0, none⟩ (.int .i64 x.l.op)).setCell ⟨w2.heap.size, 1, none⟩ (.string x.l.t.x)).setCell ⟨w2.heap.size, 2, none⟩ (.int .i64 x.l.t.v.k)).setCell ⟨w2.heap.size, 3, none⟩ (.int .i64 x.l.t.v.n)).setCell ⟨w2.heap.size, 4, none⟩ (.string x.l.t.v.s)).setCell ⟨w2.heap.size, 5, none⟩ (.slice P pn pc)).drew.heap[w2.heap.size]? = some (.cells #[.int .i64 x.l.op, .string x.l.t.x, .int .i64 x.l.t.v.k, .int .i64 x.l.t.v.n, .string x.l.t.v.s, .slice P pn pc] 49 (0, 0)) := by rw [drew_heap]; exact st5
  clear st0 st1 st2 st3 st4 st5
  generalize ((((((w4.setCell ⟨w2.heap.size, 0, none⟩ (.int .i64 x.l.op)).setCell ⟨w2.heap.size, 1, none⟩ (.string x.l.t.x)).setCell ⟨w2.heap.size, 2, none⟩ (.int .i64 x.l.t.v.k)).setCell ⟨w2.heap.size, 3, none⟩ (.int .i64 x.l.t.v.n)).setCell ⟨w2.heap.size, 4, none⟩ (.string x.l.t.v.s)).setCell ⟨w2.heap.size, 5, none⟩ (.slice P pn pc)).drew = w5 at *
  have HB5 := Lib.hid hb5
  obtain ⟨k0, k1, k2, k3, k4, k5⟩ := facts6 hrw5
  clear f0 f1 f2 f3 f4 f5 f6 f7 f8 f9 f10 f11 f12 f13 f14 f15 f16 y0 y1 y2 y3 y4 y5 z0 z1 z2 z3 z4 z5 hrw4 hrw5 hb5 hq1 Hk hlt4
  go_wp2_with fail
  refine (HE.out _ (below_next HB.out HB5.out)).mono ?_
  rintro e w6 ⟨rfl, hb6⟩
  have HB6 := Lib.hid (belowA (below_next HB5.out hb6) (.cells #[.int .i64 v.k, .int .i64 v.n, .string v.s] 28))
  clear hb6
  go_wp2_with fail
  refine (HSe.out _ (below_next HB.out HB6.out)).mono ?_
  rintro e w7 ⟨A2, c2, rfl, hs7, hb7⟩
  have HB7 := Lib.hid (below_next (below_next HB.out HB6.out) hb7)
  have Hs7 := Lib.hid hs7
  clear hb7 hs7
  go_wp2_with fail
  exact bodyPost_ret (v := .tuple #[.slice A2 (bn + 1) c2, .bool true, .int .i64 0]) (by simp [results, Tryz.results27, go_sem]) rfl (HG.out _ _ _ _ HB7.out Hs7.out)
end Go.Proofs.YtgabkmibfhmkmaaGreatDoor
