/- My own texts ArSo3, ArSo4, as far as this claim needs them. -/
import Derived.Test.YtgabkmibfhmkmaaGreatDoorZe31
set_option linter.unusedVariables false
set_option linter.unusedSimpArgs false
namespace Go.Proofs.YtgabkmibfhmkmaaGreatDoor
open Go.RowKit
set_option maxRecDepth 100000 in
set_option maxHeartbeats 8000000 in
theorem asolveC11_any (d : Nat) (x : GLit) (A : Option Addr) (n c : Nat) (P : Option Addr) (pn pc : Nat) (Q : Option Addr) (qn qc : Nat) (m : Value) (f : ByteArray → Option GV) (w : World) (h : LitAt d w w.heap.size x ⟨A, n, c⟩ ⟨P, pn, pc⟩ ⟨Q, qn, qc⟩) (hm : EnvIs w m f) (hL : LexW w) (hc : cmpB3 x = true) (hA : ¬ (x.op = 1 ∧ aloneS f x.l = true)) (hA2 : ¬ (x.op = 1 ∧ aloneS f x.r = true)) (he : (testS f x.op x.l x.r).2 ≠ 0) (q0 : (x.op == 1) = false) : Calls Tryz.prog 21 #[.agg #[.int .i64 x.k, .string x.atom.rel, .slice A n c, .int .i64 x.op, .int .i64 x.l.op, .string x.l.t.x, .int .i64 x.l.t.v.k, .int .i64 x.l.t.v.n, .string x.l.t.v.s, .slice P pn pc, .int .i64 x.r.op, .string x.r.t.x, .int .i64 x.r.t.v.k, .int .i64 x.r.t.v.n, .string x.r.t.v.s, .slice Q qn qc, .int .i64 x.pos], m] w (SolveP f (solveT f x) w) := by
  have mixed : Tryz.prog.follows .mixedOrders = true := by kernel_rfl
  have hba : Below w.heap.size w (w.alloc (.cells #[.int .i64 x.k, .string x.atom.rel, .slice A n c, .int .i64 x.op, .int .i64 x.l.op, .string x.l.t.x, .int .i64 x.l.t.v.k, .int .i64 x.l.t.v.n, .string x.l.t.v.s, .slice P pn pc, .int .i64 x.r.op, .string x.r.t.x, .int .i64 x.r.t.v.k, .int .i64 x.r.t.v.n, .string x.r.t.v.s, .slice Q qn qc, .int .i64 x.pos] 35)) := belowA (Below.refl _ _) _
  have hrb : (w.alloc (.cells #[.int .i64 x.k, .string x.atom.rel, .slice A n c, .int .i64 x.op, .int .i64 x.l.op, .string x.l.t.x, .int .i64 x.l.t.v.k, .int .i64 x.l.t.v.n, .string x.l.t.v.s, .slice P pn pc, .int .i64 x.r.op, .string x.r.t.x, .int .i64 x.r.t.v.k, .int .i64 x.r.t.v.n, .string x.r.t.v.s, .slice Q qn qc, .int .i64 x.pos] 35)).heap[w.heap.size]? = some (.cells #[.int .i64 x.k, .string x.atom.rel, .slice A n c, .int .i64 x.op, .int .i64 x.l.op, .string x.l.t.x, .int .i64 x.l.t.v.k, .int .i64 x.l.t.v.n, .string x.l.t.v.s, .slice P pn pc, .int .i64 x.r.op, .string x.r.t.x, .int .i64 x.r.t.v.k, .int .i64 x.r.t.v.n, .string x.r.t.v.s, .slice Q qn qc, .int .i64 x.pos] 35 (0, 0)) := heapNew rfl
  have HC := Lib.hid (compares_any d x A n c P pn pc Q qn qc _ (h.keep hba) (hL.on hba))
  have HU1 := Lib.hid (fun (W : World) (hb : Below w.heap.size w W) => unset_any x.l P pn pc m f W (hm.below hb))
  have HU2 := Lib.hid (fun (W : World) (hb : Below w.heap.size w W) => unset_any x.r Q qn qc m f W (hm.below hb))
  have HS1 := Lib.hid (fun (hr : rightE 20 x.r = true) (W : World) (hb : Below w.heap.size w W) => aset_any m f x.l.t.x x.r Q qn qc d W hr (h.keep hb).rk (hm.below hb))
  have HS2 := Lib.hid (fun (hr : rightE 20 x.l = true) (W : World) (hb : Below w.heap.size w W) => aset_any m f x.r.t.x x.l P pn pc d W hr (h.keep hb).lk (hm.below hb))
  have HT := Lib.hid (fun (W : World) (hb : Below w.heap.size w W) => atest_any d x A n c P pn pc Q qn qc m f W (h.keep hb) (hm.below hb) (hL.on hb))
  have HM := Lib.hid (fun (W : World) (hb : Below w.heap.size w W) => copy_any m f W (hm.below hb))
  have HB := Lib.hid hba
  have HF : Hid (∀ W, Below (w.alloc (.cells #[.int .i64 x.k, .string x.atom.rel, .slice A n c, .int .i64 x.op, .int .i64 x.l.op, .string x.l.t.x, .int .i64 x.l.t.v.k, .int .i64 x.l.t.v.n, .string x.l.t.v.s, .slice P pn pc, .int .i64 x.r.op, .string x.r.t.x, .int .i64 x.r.t.v.k, .int .i64 x.r.t.v.n, .string x.r.t.v.s, .slice Q qn qc, .int .i64 x.pos] 35)).heap.size (w.alloc (.cells #[.int .i64 x.k, .string x.atom.rel, .slice A n c, .int .i64 x.op, .int .i64 x.l.op, .string x.l.t.x, .int .i64 x.l.t.v.k, .int .i64 x.l.t.v.n, .string x.l.t.v.s, .slice P pn pc, .int .i64 x.r.op, .string x.r.t.x, .int .i64 x.r.t.v.k, .int .i64 x.r.t.v.n, .string x.r.t.v.s, .slice Q qn qc, .int .i64 x.pos] 35)) W → W.heap[w.heap.size]? = some (.cells #[.int .i64 x.k, .string x.atom.rel, .slice A n c, .int .i64 x.op, .int .i64 x.l.op, .string x.l.t.x, .int .i64 x.l.t.v.k, .int .i64 x.l.t.v.n, .string x.l.t.v.s, .slice P pn pc, .int .i64 x.r.op, .string x.r.t.x, .int .i64 x.r.t.v.k, .int .i64 x.r.t.v.n, .string x.r.t.v.s, .slice Q qn qc, .int .i64 x.pos] 35 (0, 0))) := fun W hb => (hb.block _ (Array.getElem?_eq_some_iff.1 hrb).1).trans hrb
  obtain ⟨f0, f1, f2, f3, f4, f5, f6, f7, f8, f9, f10, f11, f12, f13, f14, f15, f16⟩ := facts17 hrb
  obtain ⟨R, HR⟩ : ∃ R, Hid (R = solveT f x) := ⟨_, rfl⟩
  rw [← HR.out]
  clear h hm hL hba hrb
  generalize hwb : (w.alloc (.cells #[.int .i64 x.k, .string x.atom.rel, .slice A n c, .int .i64 x.op, .int .i64 x.l.op, .string x.l.t.x, .int .i64 x.l.t.v.k, .int .i64 x.l.t.v.n, .string x.l.t.v.s, .slice P pn pc, .int .i64 x.r.op, .string x.r.t.x, .int .i64 x.r.t.v.k, .int .i64 x.r.t.v.n, .string x.r.t.v.s, .slice Q qn qc, .int .i64 x.pos] 35)) = wb at *
  obtain ⟨hrl, hrr⟩ := cmpB3_parts hc
  have HE : Hid (R = solveS f x.op x.l x.r) := by show _ = _; rw [HR.out]; unfold solveT; rw [hc]; rfl
  rw [hc] at HC
  have HS1 := Lib.hid (HS1.out hrr)
  have HS2 := Lib.hid (HS2.out hrl)
  have htt : testT f x = testS f x.op x.l x.r := by unfold testT; rw [hc]; rfl
  rw [htt] at HT
  clear HR hc hrl hrr htt
  have HE2 : Hid (R = (none, decide ((testS f x.op x.l x.r).2 = 0) && (testS f x.op x.l x.r).1, (testS f x.op x.l x.r).2)) := by show _ = _; rw [HE.out]; unfold solveS; rw [if_neg hA, if_neg hA2]
  unfold RetBE at HT
  generalize testS f x.op x.l x.r = tq at *
  obtain ⟨qb, qe⟩ := tq
  dsimp only at HT HE2
  clear hA hA2 HE HS1 HS2
  generalize unsetS f x.l = s1 at *
  generalize unsetS f x.r = s2 at *
  dsimp only at he
  have ev : errV 66 qe = .iface 66 (.int .i64 qe) := by unfold errV; rw [if_neg he]
  have HE3 : Hid (R = (none, false, qe)) := by show _ = _; rw [HE2.out]; simp [he]
  rw [ev] at HT
  have Hev := Lib.hid ev
  clear he ev HE2 HM
  go_enter Tryz.func21, Tryz.ntmps21
  go_wp2_with fail
  try simp only [hwb]
  clear hwb
  go_wp2_with fail
  refine HC.out.mono ?_
  rintro e w1 ⟨rfl, hb1⟩
  have HB1 := Lib.hid hb1
  obtain ⟨g0, g1, g2, g3, g4, g5, g6, g7, g8, g9, g10, g11, g12, g13, g14, g15, g16⟩ := facts17 (HF.out _ hb1)
  have Hk : Hid (∀ W, Below w1.heap.size w1 W → W.cell? ⟨w.heap.size, 0, none⟩ = some (.int .i64 x.k) ∧ W.cell? ⟨w.heap.size, 1, none⟩ = some (.string x.atom.rel) ∧ W.cell? ⟨w.heap.size, 2, none⟩ = some (.slice A n c) ∧ W.cell? ⟨w.heap.size, 3, none⟩ = some (.int .i64 x.op) ∧ W.cell? ⟨w.heap.size, 4, none⟩ = some (.int .i64 x.l.op) ∧ W.cell? ⟨w.heap.size, 5, none⟩ = some (.string x.l.t.x) ∧ W.cell? ⟨w.heap.size, 6, none⟩ = some (.int .i64 x.l.t.v.k) ∧ W.cell? ⟨w.heap.size, 7, none⟩ = some (.int .i64 x.l.t.v.n) ∧ W.cell? ⟨w.heap.size, 8, none⟩ = some (.string x.l.t.v.s) ∧ W.cell? ⟨w.heap.size, 9, none⟩ = some (.slice P pn pc) ∧ W.cell? ⟨w.heap.size, 10, none⟩ = some (.int .i64 x.r.op) ∧ W.cell? ⟨w.heap.size, 11, none⟩ = some (.string x.r.t.x) ∧ W.cell? ⟨w.heap.size, 12, none⟩ = some (.int .i64 x.r.t.v.k) ∧ W.cell? ⟨w.heap.size, 13, none⟩ = some (.int .i64 x.r.t.v.n) ∧ W.cell? ⟨w.heap.size, 14, none⟩ = some (.string x.r.t.v.s) ∧ W.cell? ⟨w.heap.size, 15, none⟩ = some (.slice Q qn qc) ∧ W.cell? ⟨w.heap.size, 16, none⟩ = some (.int .i64 x.pos)) := fun W h => facts17 (HF.out _ (below_next HB1.out h))
  have hq1 := Below.refl w1.heap.size w1
  have Hfirst : Hid True := trivial
  clear hb1 f0 f1 f2 f3 f4 f5 f6 f7 f8 f9 f10 f11 f12 f13 f14 f15 f16
  go_wp2_with fail
  go_region_held3 (fun W => W.cell? ⟨w.heap.size, 0, none⟩ = some (.int .i64 x.k) ∧ W.cell? ⟨w.heap.size, 1, none⟩ = some (.string x.atom.rel) ∧ W.cell? ⟨w.heap.size, 2, none⟩ = some (.slice A n c) ∧ W.cell? ⟨w.heap.size, 3, none⟩ = some (.int .i64 x.op) ∧ W.cell? ⟨w.heap.size, 4, none⟩ = some (.int .i64 x.l.op) ∧ W.cell? ⟨w.heap.size, 5, none⟩ = some (.string x.l.t.x) ∧ W.cell? ⟨w.heap.size, 6, none⟩ = some (.int .i64 x.l.t.v.k) ∧ W.cell? ⟨w.heap.size, 7, none⟩ = some (.int .i64 x.l.t.v.n) ∧ W.cell? ⟨w.heap.size, 8, none⟩ = some (.string x.l.t.v.s) ∧ W.cell? ⟨w.heap.size, 9, none⟩ = some (.slice P pn pc) ∧ W.cell? ⟨w.heap.size, 10, none⟩ = some (.int .i64 x.r.op) ∧ W.cell? ⟨w.heap.size, 11, none⟩ = some (.string x.r.t.x) ∧ W.cell? ⟨w.heap.size, 12, none⟩ = some (.int .i64 x.r.t.v.k) ∧ W.cell? ⟨w.heap.size, 13, none⟩ = some (.int .i64 x.r.t.v.n) ∧ W.cell? ⟨w.heap.size, 14, none⟩ = some (.string x.r.t.v.s) ∧ W.cell? ⟨w.heap.size, 15, none⟩ = some (.slice Q qn qc) ∧ W.cell? ⟨w.heap.size, 16, none⟩ = some (.int .i64 x.pos))
    (first
      | (refine Hk.out _ ?_; (repeat (first | with_reducible exact Below.refl _ _ | with_reducible assumption | with_reducible refine Below.drew ?_ | with_reducible refine belowA ?_ _)); done)
      | go_keep)
    ((first
      | (go_at_call 99
         clear Hfirst
         refine (HU1.out _ (below_next HB.out (below_next HB1.out (Below.refl _ _).drew))).mono ?_
         rintro e1 w2 ⟨rfl, hb2⟩
         have hq2 : Below w1.heap.size w1 w2 := ((Below.refl w1.heap.size w1).drew).trans hb2
         clear hb2)
      | (go_at_call 99
         refine (HU2.out _ (below_next HB.out (below_next HB1.out hq2))).mono ?_
         rintro e1 w3 ⟨rfl, hb3⟩
         have hq3 : Below w1.heap.size w1 w3 := hq2.trans (hb3.mono hq2.size)
         clear hb3)))
  have HB3 := Lib.hid (below_next HB1.out hq3)
  obtain ⟨k0, k1, k2, k3, k4, k5, k6, k7, k8, k9, k10, k11, k12, k13, k14, k15, k16⟩ := facts17 (HF.out _ HB3.out)
  clear hq1 hq2 hq3 Hk g0 g1 g2 g3 g4 g5 g6 g7 g8 g9 g10 g11 g12 g13 g14 g15 g16
  go_wp2_with fail
  refine (HT.out _ (below_next HB.out HB3.out)).mono ?_
  rintro e w4 ⟨rfl, hb4⟩
  have HB4 := Lib.hid (below_next (below_next HB.out HB3.out) hb4)
  clear hb4
  go_wp2_with fail
  exact bodyPost_ret (v := .tuple #[.map none, .bool false, .iface 66 (.int .i64 qe)]) (by simp [results, Tryz.results21, go_sem]) rfl ⟨HB4.out, .inr (by rw [HE3.out]; exact ⟨rfl, by rw [Hev.out]⟩)⟩
end Go.Proofs.YtgabkmibfhmkmaaGreatDoor

namespace Go.Proofs.YtgabkmibfhmkmaaGreatDoor
open Go.RowKit
set_option maxRecDepth 100000 in
set_option maxHeartbeats 8000000 in
theorem asolveC21_any (d : Nat) (x : GLit) (A : Option Addr) (n c : Nat) (P : Option Addr) (pn pc : Nat) (Q : Option Addr) (qn qc : Nat) (m : Value) (f : ByteArray → Option GV) (w : World) (h : LitAt d w w.heap.size x ⟨A, n, c⟩ ⟨P, pn, pc⟩ ⟨Q, qn, qc⟩) (hm : EnvIs w m f) (hL : LexW w) (hc : cmpB3 x = true) (hA : ¬ (x.op = 1 ∧ aloneS f x.l = true)) (hA2 : ¬ (x.op = 1 ∧ aloneS f x.r = true)) (he : (testS f x.op x.l x.r).2 = 0) (hq : (testS f x.op x.l x.r).1 = false) (q0 : (x.op == 1) = false) : Calls Tryz.prog 21 #[.agg #[.int .i64 x.k, .string x.atom.rel, .slice A n c, .int .i64 x.op, .int .i64 x.l.op, .string x.l.t.x, .int .i64 x.l.t.v.k, .int .i64 x.l.t.v.n, .string x.l.t.v.s, .slice P pn pc, .int .i64 x.r.op, .string x.r.t.x, .int .i64 x.r.t.v.k, .int .i64 x.r.t.v.n, .string x.r.t.v.s, .slice Q qn qc, .int .i64 x.pos], m] w (SolveP f (solveT f x) w) := by
  have mixed : Tryz.prog.follows .mixedOrders = true := by kernel_rfl
  have hba : Below w.heap.size w (w.alloc (.cells #[.int .i64 x.k, .string x.atom.rel, .slice A n c, .int .i64 x.op, .int .i64 x.l.op, .string x.l.t.x, .int .i64 x.l.t.v.k, .int .i64 x.l.t.v.n, .string x.l.t.v.s, .slice P pn pc, .int .i64 x.r.op, .string x.r.t.x, .int .i64 x.r.t.v.k, .int .i64 x.r.t.v.n, .string x.r.t.v.s, .slice Q qn qc, .int .i64 x.pos] 35)) := belowA (Below.refl _ _) _
  have hrb : (w.alloc (.cells #[.int .i64 x.k, .string x.atom.rel, .slice A n c, .int .i64 x.op, .int .i64 x.l.op, .string x.l.t.x, .int .i64 x.l.t.v.k, .int .i64 x.l.t.v.n, .string x.l.t.v.s, .slice P pn pc, .int .i64 x.r.op, .string x.r.t.x, .int .i64 x.r.t.v.k, .int .i64 x.r.t.v.n, .string x.r.t.v.s, .slice Q qn qc, .int .i64 x.pos] 35)).heap[w.heap.size]? = some (.cells #[.int .i64 x.k, .string x.atom.rel, .slice A n c, .int .i64 x.op, .int .i64 x.l.op, .string x.l.t.x, .int .i64 x.l.t.v.k, .int .i64 x.l.t.v.n, .string x.l.t.v.s, .slice P pn pc, .int .i64 x.r.op, .string x.r.t.x, .int .i64 x.r.t.v.k, .int .i64 x.r.t.v.n, .string x.r.t.v.s, .slice Q qn qc, .int .i64 x.pos] 35 (0, 0)) := heapNew rfl
  have HC := Lib.hid (compares_any d x A n c P pn pc Q qn qc _ (h.keep hba) (hL.on hba))
  have HU1 := Lib.hid (fun (W : World) (hb : Below w.heap.size w W) => unset_any x.l P pn pc m f W (hm.below hb))
  have HU2 := Lib.hid (fun (W : World) (hb : Below w.heap.size w W) => unset_any x.r Q qn qc m f W (hm.below hb))
  have HS1 := Lib.hid (fun (hr : rightE 20 x.r = true) (W : World) (hb : Below w.heap.size w W) => aset_any m f x.l.t.x x.r Q qn qc d W hr (h.keep hb).rk (hm.below hb))
  have HS2 := Lib.hid (fun (hr : rightE 20 x.l = true) (W : World) (hb : Below w.heap.size w W) => aset_any m f x.r.t.x x.l P pn pc d W hr (h.keep hb).lk (hm.below hb))
  have HT := Lib.hid (fun (W : World) (hb : Below w.heap.size w W) => atest_any d x A n c P pn pc Q qn qc m f W (h.keep hb) (hm.below hb) (hL.on hb))
  have HM := Lib.hid (fun (W : World) (hb : Below w.heap.size w W) => copy_any m f W (hm.below hb))
  have HB := Lib.hid hba
  have HF : Hid (∀ W, Below (w.alloc (.cells #[.int .i64 x.k, .string x.atom.rel, .slice A n c, .int .i64 x.op, .int .i64 x.l.op, .string x.l.t.x, .int .i64 x.l.t.v.k, .int .i64 x.l.t.v.n, .string x.l.t.v.s, .slice P pn pc, .int .i64 x.r.op, .string x.r.t.x, .int .i64 x.r.t.v.k, .int .i64 x.r.t.v.n, .string x.r.t.v.s, .slice Q qn qc, .int .i64 x.pos] 35)).heap.size (w.alloc (.cells #[.int .i64 x.k, .string x.atom.rel, .slice A n c, .int .i64 x.op, .int .i64 x.l.op, .string x.l.t.x, .int .i64 x.l.t.v.k, .int .i64 x.l.t.v.n, .string x.l.t.v.s, .slice P pn pc, .int .i64 x.r.op, .string x.r.t.x, .int .i64 x.r.t.v.k, .int .i64 x.r.t.v.n, .string x.r.t.v.s, .slice Q qn qc, .int .i64 x.pos] 35)) W → W.heap[w.heap.size]? = some (.cells #[.int .i64 x.k, .string x.atom.rel, .slice A n c, .int .i64 x.op, .int .i64 x.l.op, .string x.l.t.x, .int .i64 x.l.t.v.k, .int .i64 x.l.t.v.n, .string x.l.t.v.s, .slice P pn pc, .int .i64 x.r.op, .string x.r.t.x, .int .i64 x.r.t.v.k, .int .i64 x.r.t.v.n, .string x.r.t.v.s, .slice Q qn qc, .int .i64 x.pos] 35 (0, 0))) := fun W hb => (hb.block _ (Array.getElem?_eq_some_iff.1 hrb).1).trans hrb
  obtain ⟨f0, f1, f2, f3, f4, f5, f6, f7, f8, f9, f10, f11, f12, f13, f14, f15, f16⟩ := facts17 hrb
  obtain ⟨R, HR⟩ : ∃ R, Hid (R = solveT f x) := ⟨_, rfl⟩
  rw [← HR.out]
  clear h hm hL hba hrb
  generalize hwb : (w.alloc (.cells #[.int .i64 x.k, .string x.atom.rel, .slice A n c, .int .i64 x.op, .int .i64 x.l.op, .string x.l.t.x, .int .i64 x.l.t.v.k, .int .i64 x.l.t.v.n, .string x.l.t.v.s, .slice P pn pc, .int .i64 x.r.op, .string x.r.t.x, .int .i64 x.r.t.v.k, .int .i64 x.r.t.v.n, .string x.r.t.v.s, .slice Q qn qc, .int .i64 x.pos] 35)) = wb at *
  obtain ⟨hrl, hrr⟩ := cmpB3_parts hc
  have HE : Hid (R = solveS f x.op x.l x.r) := by show _ = _; rw [HR.out]; unfold solveT; rw [hc]; rfl
  rw [hc] at HC
  have HS1 := Lib.hid (HS1.out hrr)
  have HS2 := Lib.hid (HS2.out hrl)
  have htt : testT f x = testS f x.op x.l x.r := by unfold testT; rw [hc]; rfl
  rw [htt] at HT
  clear HR hc hrl hrr htt
  have HE2 : Hid (R = (none, decide ((testS f x.op x.l x.r).2 = 0) && (testS f x.op x.l x.r).1, (testS f x.op x.l x.r).2)) := by show _ = _; rw [HE.out]; unfold solveS; rw [if_neg hA, if_neg hA2]
  unfold RetBE at HT
  generalize testS f x.op x.l x.r = tq at *
  obtain ⟨qb, qe⟩ := tq
  dsimp only at HT HE2
  clear hA hA2 HE HS1 HS2
  generalize unsetS f x.l = s1 at *
  generalize unsetS f x.r = s2 at *
  dsimp only at he hq
  subst he hq
  simp only [errV, if_true] at HT
  have HE3 : Hid (R = (none, false, 0)) := by show _ = _; rw [HE2.out]; simp
  clear HE2 HM
  go_enter Tryz.func21, Tryz.ntmps21
  go_wp2_with fail
  try simp only [hwb]
  clear hwb
  go_wp2_with fail
  refine HC.out.mono ?_
  rintro e w1 ⟨rfl, hb1⟩
  have HB1 := Lib.hid hb1
  obtain ⟨g0, g1, g2, g3, g4, g5, g6, g7, g8, g9, g10, g11, g12, g13, g14, g15, g16⟩ := facts17 (HF.out _ hb1)
  have Hk : Hid (∀ W, Below w1.heap.size w1 W → W.cell? ⟨w.heap.size, 0, none⟩ = some (.int .i64 x.k) ∧ W.cell? ⟨w.heap.size, 1, none⟩ = some (.string x.atom.rel) ∧ W.cell? ⟨w.heap.size, 2, none⟩ = some (.slice A n c) ∧ W.cell? ⟨w.heap.size, 3, none⟩ = some (.int .i64 x.op) ∧ W.cell? ⟨w.heap.size, 4, none⟩ = some (.int .i64 x.l.op) ∧ W.cell? ⟨w.heap.size, 5, none⟩ = some (.string x.l.t.x) ∧ W.cell? ⟨w.heap.size, 6, none⟩ = some (.int .i64 x.l.t.v.k) ∧ W.cell? ⟨w.heap.size, 7, none⟩ = some (.int .i64 x.l.t.v.n) ∧ W.cell? ⟨w.heap.size, 8, none⟩ = some (.string x.l.t.v.s) ∧ W.cell? ⟨w.heap.size, 9, none⟩ = some (.slice P pn pc) ∧ W.cell? ⟨w.heap.size, 10, none⟩ = some (.int .i64 x.r.op) ∧ W.cell? ⟨w.heap.size, 11, none⟩ = some (.string x.r.t.x) ∧ W.cell? ⟨w.heap.size, 12, none⟩ = some (.int .i64 x.r.t.v.k) ∧ W.cell? ⟨w.heap.size, 13, none⟩ = some (.int .i64 x.r.t.v.n) ∧ W.cell? ⟨w.heap.size, 14, none⟩ = some (.string x.r.t.v.s) ∧ W.cell? ⟨w.heap.size, 15, none⟩ = some (.slice Q qn qc) ∧ W.cell? ⟨w.heap.size, 16, none⟩ = some (.int .i64 x.pos)) := fun W h => facts17 (HF.out _ (below_next HB1.out h))
  have hq1 := Below.refl w1.heap.size w1
  have Hfirst : Hid True := trivial
  clear hb1 f0 f1 f2 f3 f4 f5 f6 f7 f8 f9 f10 f11 f12 f13 f14 f15 f16
  go_wp2_with fail
  go_region_held3 (fun W => W.cell? ⟨w.heap.size, 0, none⟩ = some (.int .i64 x.k) ∧ W.cell? ⟨w.heap.size, 1, none⟩ = some (.string x.atom.rel) ∧ W.cell? ⟨w.heap.size, 2, none⟩ = some (.slice A n c) ∧ W.cell? ⟨w.heap.size, 3, none⟩ = some (.int .i64 x.op) ∧ W.cell? ⟨w.heap.size, 4, none⟩ = some (.int .i64 x.l.op) ∧ W.cell? ⟨w.heap.size, 5, none⟩ = some (.string x.l.t.x) ∧ W.cell? ⟨w.heap.size, 6, none⟩ = some (.int .i64 x.l.t.v.k) ∧ W.cell? ⟨w.heap.size, 7, none⟩ = some (.int .i64 x.l.t.v.n) ∧ W.cell? ⟨w.heap.size, 8, none⟩ = some (.string x.l.t.v.s) ∧ W.cell? ⟨w.heap.size, 9, none⟩ = some (.slice P pn pc) ∧ W.cell? ⟨w.heap.size, 10, none⟩ = some (.int .i64 x.r.op) ∧ W.cell? ⟨w.heap.size, 11, none⟩ = some (.string x.r.t.x) ∧ W.cell? ⟨w.heap.size, 12, none⟩ = some (.int .i64 x.r.t.v.k) ∧ W.cell? ⟨w.heap.size, 13, none⟩ = some (.int .i64 x.r.t.v.n) ∧ W.cell? ⟨w.heap.size, 14, none⟩ = some (.string x.r.t.v.s) ∧ W.cell? ⟨w.heap.size, 15, none⟩ = some (.slice Q qn qc) ∧ W.cell? ⟨w.heap.size, 16, none⟩ = some (.int .i64 x.pos))
    (first
      | (refine Hk.out _ ?_; (repeat (first | with_reducible exact Below.refl _ _ | with_reducible assumption | with_reducible refine Below.drew ?_ | with_reducible refine belowA ?_ _)); done)
      | go_keep)
    ((first
      | (go_at_call 99
         clear Hfirst
         refine (HU1.out _ (below_next HB.out (below_next HB1.out (Below.refl _ _).drew))).mono ?_
         rintro e1 w2 ⟨rfl, hb2⟩
         have hq2 : Below w1.heap.size w1 w2 := ((Below.refl w1.heap.size w1).drew).trans hb2
         clear hb2)
      | (go_at_call 99
         refine (HU2.out _ (below_next HB.out (below_next HB1.out hq2))).mono ?_
         rintro e1 w3 ⟨rfl, hb3⟩
         have hq3 : Below w1.heap.size w1 w3 := hq2.trans (hb3.mono hq2.size)
         clear hb3)))
  have HB3 := Lib.hid (below_next HB1.out hq3)
  obtain ⟨k0, k1, k2, k3, k4, k5, k6, k7, k8, k9, k10, k11, k12, k13, k14, k15, k16⟩ := facts17 (HF.out _ HB3.out)
  clear hq1 hq2 hq3 Hk g0 g1 g2 g3 g4 g5 g6 g7 g8 g9 g10 g11 g12 g13 g14 g15 g16
  go_wp2_with fail
  refine (HT.out _ (below_next HB.out HB3.out)).mono ?_
  rintro e w4 ⟨rfl, hb4⟩
  have HB4 := Lib.hid (below_next (below_next HB.out HB3.out) hb4)
  clear hb4
  go_wp2_with fail
  exact bodyPost_ret (v := .tuple #[.map none, .bool false, .nilIface]) (by simp [results, Tryz.results21, go_sem]) rfl ⟨HB4.out, .inr (by rw [HE3.out]; exact ⟨rfl, rfl⟩)⟩
end Go.Proofs.YtgabkmibfhmkmaaGreatDoor
