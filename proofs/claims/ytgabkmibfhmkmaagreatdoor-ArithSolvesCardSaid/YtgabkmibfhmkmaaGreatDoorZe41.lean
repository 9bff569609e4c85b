/- My own texts ArRSoT1, as far as this claim needs them. -/
import Derived.Test.YtgabkmibfhmkmaaGreatDoorZe39
set_option linter.unusedVariables false
set_option linter.unusedSimpArgs false
namespace Go.Proofs.YtgabkmibfhmkmaaGreatDoor
open Go.RowKit
set_option linter.unusedVariables false
set_option maxRecDepth 100000 in
set_option maxHeartbeats 8000000 in
theorem refSolveT1e (d : Nat) (x : GLit) (A : Option Addr) (n c : Nat) (P : Option Addr) (pn pc : Nat) (Q : Option Addr) (qn qc : Nat) (B : Option Addr) (bn bc : Nat) (l : List GTold) (w : World) (h : LitAt d w w.heap.size x ⟨A, n, c⟩ ⟨P, pn, pc⟩ ⟨Q, qn, qc⟩) (hl : SliceIs Enc.told w w.heap.size B bn bc l) (hn : bn ≤ 1000000) (hL : rightE 20 x.l = true) (hR : rightE 20 x.r = true) (hq : ¬ x.op = 1) (he : ¬ (testS (getT l) x.op x.l x.r).2 = 0) :
    Calls Tryz.prog 27 #[.agg #[.int .i64 x.k, .string x.atom.rel, .slice A n c, .int .i64 x.op, .int .i64 x.l.op, .string x.l.t.x, .int .i64 x.l.t.v.k, .int .i64 x.l.t.v.n, .string x.l.t.v.s, .slice P pn pc, .int .i64 x.r.op, .string x.r.t.x, .int .i64 x.r.t.v.k, .int .i64 x.r.t.v.n, .string x.r.t.v.s, .slice Q qn qc, .int .i64 x.pos], .slice B bn bc] w (RSolveP (getT l) (solveS (getT l) x.op x.l x.r) w) := by
  have mixed : Tryz.prog.follows .mixedOrders = true := by kernel_rfl
  have hba : Below w.heap.size w (w.alloc (.cells #[.int .i64 x.k, .string x.atom.rel, .slice A n c, .int .i64 x.op, .int .i64 x.l.op, .string x.l.t.x, .int .i64 x.l.t.v.k, .int .i64 x.l.t.v.n, .string x.l.t.v.s, .slice P pn pc, .int .i64 x.r.op, .string x.r.t.x, .int .i64 x.r.t.v.k, .int .i64 x.r.t.v.n, .string x.r.t.v.s, .slice Q qn qc, .int .i64 x.pos] 51)) := belowA (Below.refl _ _) _
  have hrb : (w.alloc (.cells #[.int .i64 x.k, .string x.atom.rel, .slice A n c, .int .i64 x.op, .int .i64 x.l.op, .string x.l.t.x, .int .i64 x.l.t.v.k, .int .i64 x.l.t.v.n, .string x.l.t.v.s, .slice P pn pc, .int .i64 x.r.op, .string x.r.t.x, .int .i64 x.r.t.v.k, .int .i64 x.r.t.v.n, .string x.r.t.v.s, .slice Q qn qc, .int .i64 x.pos] 51)).heap[w.heap.size]? = some (.cells #[.int .i64 x.k, .string x.atom.rel, .slice A n c, .int .i64 x.op, .int .i64 x.l.op, .string x.l.t.x, .int .i64 x.l.t.v.k, .int .i64 x.l.t.v.n, .string x.l.t.v.s, .slice P pn pc, .int .i64 x.r.op, .string x.r.t.x, .int .i64 x.r.t.v.k, .int .i64 x.r.t.v.n, .string x.r.t.v.s, .slice Q qn qc, .int .i64 x.pos] 51 (0, 0)) := heapNew rfl
  have HB := Lib.hid hba
  have HF : Hid (∀ W, Below (w.alloc (.cells #[.int .i64 x.k, .string x.atom.rel, .slice A n c, .int .i64 x.op, .int .i64 x.l.op, .string x.l.t.x, .int .i64 x.l.t.v.k, .int .i64 x.l.t.v.n, .string x.l.t.v.s, .slice P pn pc, .int .i64 x.r.op, .string x.r.t.x, .int .i64 x.r.t.v.k, .int .i64 x.r.t.v.n, .string x.r.t.v.s, .slice Q qn qc, .int .i64 x.pos] 51)).heap.size (w.alloc (.cells #[.int .i64 x.k, .string x.atom.rel, .slice A n c, .int .i64 x.op, .int .i64 x.l.op, .string x.l.t.x, .int .i64 x.l.t.v.k, .int .i64 x.l.t.v.n, .string x.l.t.v.s, .slice P pn pc, .int .i64 x.r.op, .string x.r.t.x, .int .i64 x.r.t.v.k, .int .i64 x.r.t.v.n, .string x.r.t.v.s, .slice Q qn qc, .int .i64 x.pos] 51)) W → RLitRow W w.heap.size x A n c P pn pc Q qn qc) := fun W hb => (hb.block _ (Array.getElem?_eq_some_iff.1 hrb).1).trans hrb
  have HAl := Lib.hid (fun (W : World) (hb : Below w.heap.size w W) => refAlone_any x.l P pn pc B bn bc l W h.lx (hl.keep hb))
  have HAr := Lib.hid (fun (W : World) (hb : Below w.heap.size w W) => refAlone_any x.r Q qn qc B bn bc l W h.rx (hl.keep hb))
  obtain ⟨f0, f1, f2, f3, f4, f5, f6, f7, f8, f9, f10, f11, f12, f13, f14, f15, f16⟩ := (HF.out _ (Below.refl _ _)).facts
  obtain ⟨K, HK⟩ : ∃ K : Ending → World → Prop, Hid (K = RSolveP (getT l) (solveS (getT l) x.op x.l x.r) w) := ⟨_, rfl⟩
  rw [← HK.out]
  have q0 : (x.op == 1) = false := by simp [hq]
  have hyu : undef = Value.tuple #[] := rfl
  have hS : solveS (getT l) x.op x.l x.r = (none, decide ((testS (getT l) x.op x.l x.r).2 = 0) && (testS (getT l) x.op x.l x.r).1, (testS (getT l) x.op x.l x.r).2) := by unfold solveS; rw [if_neg (by simp [hq]), if_neg (by simp [hq])]
  have HTt := Lib.hid (fun (W : World) (hb : Below w.heap.size w W) => refTest_any d x A n c P pn pc Q qn qc B bn bc l W (h.keep hb) (hl.keep hb) hL hR)
  unfold RetBE errI at HTt
  have HG : Hid (∀ w', Below w.heap.size w w' → K (.returned (.tuple #[.slice none 0 0, .bool false, .int .i64 (testS (getT l) x.op x.l x.r).2])) w') := fun w' hb => by rw [HK.out, hS]; exact ⟨hb, .inr ⟨by simp [he], rfl⟩⟩
  have q1 : ((testS (getT l) x.op x.l x.r).2 != 0) = true := by simp [he]
  generalize testS (getT l) x.op x.l x.r = tq at *
  obtain ⟨tb, te⟩ := tq
  dsimp only at HTt HG q1
  clear hba hrb HK hS he hq h hl hL hR
  generalize hwb : (w.alloc (.cells #[.int .i64 x.k, .string x.atom.rel, .slice A n c, .int .i64 x.op, .int .i64 x.l.op, .string x.l.t.x, .int .i64 x.l.t.v.k, .int .i64 x.l.t.v.n, .string x.l.t.v.s, .slice P pn pc, .int .i64 x.r.op, .string x.r.t.x, .int .i64 x.r.t.v.k, .int .i64 x.r.t.v.n, .string x.r.t.v.s, .slice Q qn qc, .int .i64 x.pos] 51)) = wb at *
  have HB0 := Lib.hid (Below.refl wb.heap.size wb)
  go_enter Tryz.func27, Tryz.ntmps27
  go_wp2_with fail
  try simp only [hwb]
  clear hwb
  refine (HTt.out _ (below_next HB.out HB0.out)).mono ?_
  rintro e w5 ⟨rfl, hb5⟩
  have HB5 := Lib.hid (below_next (below_next HB.out HB0.out) hb5)
  clear hb5 f0 f1 f2 f3 f4 f5 f6 f7 f8 f9 f10 f11 f12 f13 f14 f15 f16
  go_wp2_with fail
  exact bodyPost_ret (v := .tuple #[.slice none 0 0, .bool false, .int .i64 te]) (by simp [results, Tryz.results27, go_sem]) rfl (HG.out _ HB5.out)
set_option maxRecDepth 100000 in
set_option maxHeartbeats 8000000 in
theorem refSolveT1f (d : Nat) (x : GLit) (A : Option Addr) (n c : Nat) (P : Option Addr) (pn pc : Nat) (Q : Option Addr) (qn qc : Nat) (B : Option Addr) (bn bc : Nat) (l : List GTold) (w : World) (h : LitAt d w w.heap.size x ⟨A, n, c⟩ ⟨P, pn, pc⟩ ⟨Q, qn, qc⟩) (hl : SliceIs Enc.told w w.heap.size B bn bc l) (hn : bn ≤ 1000000) (hL : rightE 20 x.l = true) (hR : rightE 20 x.r = true) (hq : ¬ x.op = 1) (he : (testS (getT l) x.op x.l x.r).2 = 0) (ht : (testS (getT l) x.op x.l x.r).1 = false) :
    Calls Tryz.prog 27 #[.agg #[.int .i64 x.k, .string x.atom.rel, .slice A n c, .int .i64 x.op, .int .i64 x.l.op, .string x.l.t.x, .int .i64 x.l.t.v.k, .int .i64 x.l.t.v.n, .string x.l.t.v.s, .slice P pn pc, .int .i64 x.r.op, .string x.r.t.x, .int .i64 x.r.t.v.k, .int .i64 x.r.t.v.n, .string x.r.t.v.s, .slice Q qn qc, .int .i64 x.pos], .slice B bn bc] w (RSolveP (getT l) (solveS (getT l) x.op x.l x.r) w) := by
  have mixed : Tryz.prog.follows .mixedOrders = true := by kernel_rfl
  have hba : Below w.heap.size w (w.alloc (.cells #[.int .i64 x.k, .string x.atom.rel, .slice A n c, .int .i64 x.op, .int .i64 x.l.op, .string x.l.t.x, .int .i64 x.l.t.v.k, .int .i64 x.l.t.v.n, .string x.l.t.v.s, .slice P pn pc, .int .i64 x.r.op, .string x.r.t.x, .int .i64 x.r.t.v.k, .int .i64 x.r.t.v.n, .string x.r.t.v.s, .slice Q qn qc, .int .i64 x.pos] 51)) := belowA (Below.refl _ _) _
  have hrb : (w.alloc (.cells #[.int .i64 x.k, .string x.atom.rel, .slice A n c, .int .i64 x.op, .int .i64 x.l.op, .string x.l.t.x, .int .i64 x.l.t.v.k, .int .i64 x.l.t.v.n, .string x.l.t.v.s, .slice P pn pc, .int .i64 x.r.op, .string x.r.t.x, .int .i64 x.r.t.v.k, .int .i64 x.r.t.v.n, .string x.r.t.v.s, .slice Q qn qc, .int .i64 x.pos] 51)).heap[w.heap.size]? = some (.cells #[.int .i64 x.k, .string x.atom.rel, .slice A n c, .int .i64 x.op, .int .i64 x.l.op, .string x.l.t.x, .int .i64 x.l.t.v.k, .int .i64 x.l.t.v.n, .string x.l.t.v.s, .slice P pn pc, .int .i64 x.r.op, .string x.r.t.x, .int .i64 x.r.t.v.k, .int .i64 x.r.t.v.n, .string x.r.t.v.s, .slice Q qn qc, .int .i64 x.pos] 51 (0, 0)) := heapNew rfl
  have HB := Lib.hid hba
  have HF : Hid (∀ W, Below (w.alloc (.cells #[.int .i64 x.k, .string x.atom.rel, .slice A n c, .int .i64 x.op, .int .i64 x.l.op, .string x.l.t.x, .int .i64 x.l.t.v.k, .int .i64 x.l.t.v.n, .string x.l.t.v.s, .slice P pn pc, .int .i64 x.r.op, .string x.r.t.x, .int .i64 x.r.t.v.k, .int .i64 x.r.t.v.n, .string x.r.t.v.s, .slice Q qn qc, .int .i64 x.pos] 51)).heap.size (w.alloc (.cells #[.int .i64 x.k, .string x.atom.rel, .slice A n c, .int .i64 x.op, .int .i64 x.l.op, .string x.l.t.x, .int .i64 x.l.t.v.k, .int .i64 x.l.t.v.n, .string x.l.t.v.s, .slice P pn pc, .int .i64 x.r.op, .string x.r.t.x, .int .i64 x.r.t.v.k, .int .i64 x.r.t.v.n, .string x.r.t.v.s, .slice Q qn qc, .int .i64 x.pos] 51)) W → RLitRow W w.heap.size x A n c P pn pc Q qn qc) := fun W hb => (hb.block _ (Array.getElem?_eq_some_iff.1 hrb).1).trans hrb
  have HAl := Lib.hid (fun (W : World) (hb : Below w.heap.size w W) => refAlone_any x.l P pn pc B bn bc l W h.lx (hl.keep hb))
  have HAr := Lib.hid (fun (W : World) (hb : Below w.heap.size w W) => refAlone_any x.r Q qn qc B bn bc l W h.rx (hl.keep hb))
  obtain ⟨f0, f1, f2, f3, f4, f5, f6, f7, f8, f9, f10, f11, f12, f13, f14, f15, f16⟩ := (HF.out _ (Below.refl _ _)).facts
  obtain ⟨K, HK⟩ : ∃ K : Ending → World → Prop, Hid (K = RSolveP (getT l) (solveS (getT l) x.op x.l x.r) w) := ⟨_, rfl⟩
  rw [← HK.out]
  have q0 : (x.op == 1) = false := by simp [hq]
  have hyu : undef = Value.tuple #[] := rfl
  have hS : solveS (getT l) x.op x.l x.r = (none, decide ((testS (getT l) x.op x.l x.r).2 = 0) && (testS (getT l) x.op x.l x.r).1, (testS (getT l) x.op x.l x.r).2) := by unfold solveS; rw [if_neg (by simp [hq]), if_neg (by simp [hq])]
  have HTt := Lib.hid (fun (W : World) (hb : Below w.heap.size w W) => refTest_any d x A n c P pn pc Q qn qc B bn bc l W (h.keep hb) (hl.keep hb) hL hR)
  unfold RetBE errI at HTt
  have HG : Hid (∀ w', Below w.heap.size w w' → K (.returned (.tuple #[.slice none 0 0, .bool false, .int .i64 0])) w') := fun w' hb => by rw [HK.out, hS, he, ht]; exact ⟨hb, .inr ⟨rfl, rfl⟩⟩
  rw [he, ht] at HTt
  clear hba hrb HK hS he hq h hl hL hR ht
  generalize hwb : (w.alloc (.cells #[.int .i64 x.k, .string x.atom.rel, .slice A n c, .int .i64 x.op, .int .i64 x.l.op, .string x.l.t.x, .int .i64 x.l.t.v.k, .int .i64 x.l.t.v.n, .string x.l.t.v.s, .slice P pn pc, .int .i64 x.r.op, .string x.r.t.x, .int .i64 x.r.t.v.k, .int .i64 x.r.t.v.n, .string x.r.t.v.s, .slice Q qn qc, .int .i64 x.pos] 51)) = wb at *
  have HB0 := Lib.hid (Below.refl wb.heap.size wb)
  go_enter Tryz.func27, Tryz.ntmps27
  go_wp2_with fail
  try simp only [hwb]
  clear hwb
  refine (HTt.out _ (below_next HB.out HB0.out)).mono ?_
  rintro e w5 ⟨rfl, hb5⟩
  have HB5 := Lib.hid (below_next (below_next HB.out HB0.out) hb5)
  clear hb5 f0 f1 f2 f3 f4 f5 f6 f7 f8 f9 f10 f11 f12 f13 f14 f15 f16
  go_wp2_with fail
  exact bodyPost_ret (v := .tuple #[.slice none 0 0, .bool false, .int .i64 0]) (by simp [results, Tryz.results27, go_sem]) rfl (HG.out _ HB5.out)
set_option maxRecDepth 100000 in
set_option maxHeartbeats 8000000 in
theorem refSolveT1t (d : Nat) (x : GLit) (A : Option Addr) (n c : Nat) (P : Option Addr) (pn pc : Nat) (Q : Option Addr) (qn qc : Nat) (B : Option Addr) (bn bc : Nat) (l : List GTold) (w : World) (h : LitAt d w w.heap.size x ⟨A, n, c⟩ ⟨P, pn, pc⟩ ⟨Q, qn, qc⟩) (hl : SliceIs Enc.told w w.heap.size B bn bc l) (hn : bn ≤ 1000000) (hL : rightE 20 x.l = true) (hR : rightE 20 x.r = true) (hq : ¬ x.op = 1) (he : (testS (getT l) x.op x.l x.r).2 = 0) (ht : (testS (getT l) x.op x.l x.r).1 = true) :
    Calls Tryz.prog 27 #[.agg #[.int .i64 x.k, .string x.atom.rel, .slice A n c, .int .i64 x.op, .int .i64 x.l.op, .string x.l.t.x, .int .i64 x.l.t.v.k, .int .i64 x.l.t.v.n, .string x.l.t.v.s, .slice P pn pc, .int .i64 x.r.op, .string x.r.t.x, .int .i64 x.r.t.v.k, .int .i64 x.r.t.v.n, .string x.r.t.v.s, .slice Q qn qc, .int .i64 x.pos], .slice B bn bc] w (RSolveP (getT l) (solveS (getT l) x.op x.l x.r) w) := by
  have mixed : Tryz.prog.follows .mixedOrders = true := by kernel_rfl
  have hba : Below w.heap.size w (w.alloc (.cells #[.int .i64 x.k, .string x.atom.rel, .slice A n c, .int .i64 x.op, .int .i64 x.l.op, .string x.l.t.x, .int .i64 x.l.t.v.k, .int .i64 x.l.t.v.n, .string x.l.t.v.s, .slice P pn pc, .int .i64 x.r.op, .string x.r.t.x, .int .i64 x.r.t.v.k, .int .i64 x.r.t.v.n, .string x.r.t.v.s, .slice Q qn qc, .int .i64 x.pos] 51)) := belowA (Below.refl _ _) _
  have hrb : (w.alloc (.cells #[.int .i64 x.k, .string x.atom.rel, .slice A n c, .int .i64 x.op, .int .i64 x.l.op, .string x.l.t.x, .int .i64 x.l.t.v.k, .int .i64 x.l.t.v.n, .string x.l.t.v.s, .slice P pn pc, .int .i64 x.r.op, .string x.r.t.x, .int .i64 x.r.t.v.k, .int .i64 x.r.t.v.n, .string x.r.t.v.s, .slice Q qn qc, .int .i64 x.pos] 51)).heap[w.heap.size]? = some (.cells #[.int .i64 x.k, .string x.atom.rel, .slice A n c, .int .i64 x.op, .int .i64 x.l.op, .string x.l.t.x, .int .i64 x.l.t.v.k, .int .i64 x.l.t.v.n, .string x.l.t.v.s, .slice P pn pc, .int .i64 x.r.op, .string x.r.t.x, .int .i64 x.r.t.v.k, .int .i64 x.r.t.v.n, .string x.r.t.v.s, .slice Q qn qc, .int .i64 x.pos] 51 (0, 0)) := heapNew rfl
  have HB := Lib.hid hba
  have HF : Hid (∀ W, Below (w.alloc (.cells #[.int .i64 x.k, .string x.atom.rel, .slice A n c, .int .i64 x.op, .int .i64 x.l.op, .string x.l.t.x, .int .i64 x.l.t.v.k, .int .i64 x.l.t.v.n, .string x.l.t.v.s, .slice P pn pc, .int .i64 x.r.op, .string x.r.t.x, .int .i64 x.r.t.v.k, .int .i64 x.r.t.v.n, .string x.r.t.v.s, .slice Q qn qc, .int .i64 x.pos] 51)).heap.size (w.alloc (.cells #[.int .i64 x.k, .string x.atom.rel, .slice A n c, .int .i64 x.op, .int .i64 x.l.op, .string x.l.t.x, .int .i64 x.l.t.v.k, .int .i64 x.l.t.v.n, .string x.l.t.v.s, .slice P pn pc, .int .i64 x.r.op, .string x.r.t.x, .int .i64 x.r.t.v.k, .int .i64 x.r.t.v.n, .string x.r.t.v.s, .slice Q qn qc, .int .i64 x.pos] 51)) W → RLitRow W w.heap.size x A n c P pn pc Q qn qc) := fun W hb => (hb.block _ (Array.getElem?_eq_some_iff.1 hrb).1).trans hrb
  have HAl := Lib.hid (fun (W : World) (hb : Below w.heap.size w W) => refAlone_any x.l P pn pc B bn bc l W h.lx (hl.keep hb))
  have HAr := Lib.hid (fun (W : World) (hb : Below w.heap.size w W) => refAlone_any x.r Q qn qc B bn bc l W h.rx (hl.keep hb))
  obtain ⟨f0, f1, f2, f3, f4, f5, f6, f7, f8, f9, f10, f11, f12, f13, f14, f15, f16⟩ := (HF.out _ (Below.refl _ _)).facts
  obtain ⟨K, HK⟩ : ∃ K : Ending → World → Prop, Hid (K = RSolveP (getT l) (solveS (getT l) x.op x.l x.r) w) := ⟨_, rfl⟩
  rw [← HK.out]
  have q0 : (x.op == 1) = false := by simp [hq]
  have hyu : undef = Value.tuple #[] := rfl
  have hS : solveS (getT l) x.op x.l x.r = (none, decide ((testS (getT l) x.op x.l x.r).2 = 0) && (testS (getT l) x.op x.l x.r).1, (testS (getT l) x.op x.l x.r).2) := by unfold solveS; rw [if_neg (by simp [hq]), if_neg (by simp [hq])]
  have HTt := Lib.hid (fun (W : World) (hb : Below w.heap.size w W) => refTest_any d x A n c P pn pc Q qn qc B bn bc l W (h.keep hb) (hl.keep hb) hL hR)
  unfold RetBE errI at HTt
  have HLl := Lib.hid hl
  have HG : Hid (∀ w', Below w.heap.size w w' → K (.returned (.tuple #[.slice B bn bc, .bool true, .int .i64 0])) w') := fun w' hb => by rw [HK.out, hS, he, ht]; exact ⟨hb, .inl ⟨rfl, rfl, B, bn, bc, l, rfl, hl.keep hb, fun _ => rfl⟩⟩
  rw [he, ht] at HTt
  clear hba hrb HK hS he hq h hl hL hR ht
  generalize hwb : (w.alloc (.cells #[.int .i64 x.k, .string x.atom.rel, .slice A n c, .int .i64 x.op, .int .i64 x.l.op, .string x.l.t.x, .int .i64 x.l.t.v.k, .int .i64 x.l.t.v.n, .string x.l.t.v.s, .slice P pn pc, .int .i64 x.r.op, .string x.r.t.x, .int .i64 x.r.t.v.k, .int .i64 x.r.t.v.n, .string x.r.t.v.s, .slice Q qn qc, .int .i64 x.pos] 51)) = wb at *
  have HB0 := Lib.hid (Below.refl wb.heap.size wb)
  go_enter Tryz.func27, Tryz.ntmps27
  go_wp2_with fail
  try simp only [hwb]
  clear hwb
  refine (HTt.out _ (below_next HB.out HB0.out)).mono ?_
  rintro e w5 ⟨rfl, hb5⟩
  have HB5 := Lib.hid (below_next (below_next HB.out HB0.out) hb5)
  clear hb5 f0 f1 f2 f3 f4 f5 f6 f7 f8 f9 f10 f11 f12 f13 f14 f15 f16
  go_wp2_with fail
  exact bodyPost_ret (v := .tuple #[.slice B bn bc, .bool true, .int .i64 0]) (by simp [results, Tryz.results27, go_sem]) rfl (HG.out _ HB5.out)
end Go.Proofs.YtgabkmibfhmkmaaGreatDoor
