/- My own texts ArRS, ArRSo0, ArRSoA, as far as this claim needs them. -/
import Derived.Test.YtgabkmibfhmkmaaGreatDoorZe28
import Derived.Test.YtgabkmibfhmkmaaGreatDoorZe31
import Derived.Test.YtgabkmibfhmkmaaGreatDoorZe36
import Derived.Test.YtgabkmibfhmkmaaGreatDoorZe37
import Derived.Test.YtgabkmibfhmkmaaGreatDoorZe38
import Derived.Deep.RegionHeld3
set_option linter.unusedVariables false
set_option linter.unusedSimpArgs false
namespace Go.Proofs.YtgabkmibfhmkmaaGreatDoor
open Go.RowKit
set_option maxRecDepth 100000 in
set_option maxHeartbeats 2000000 in
theorem refRight13_any (d : Nat) (x : GLit) (A : Option Addr) (n c : Nat) (P : Option Addr) (pn pc : Nat) (Q : Option Addr) (qn qc : Nat) (w : World) (h : LitAt d w w.heap.size x ⟨A, n, c⟩ ⟨P, pn, pc⟩ ⟨Q, qn, qc⟩) : Calls Tryz.prog 24 #[.agg #[.int .i64 x.k, .string x.atom.rel, .slice A n c, .int .i64 x.op, .int .i64 x.l.op, .string x.l.t.x, .int .i64 x.l.t.v.k, .int .i64 x.l.t.v.n, .string x.l.t.v.s, .slice P pn pc, .int .i64 x.r.op, .string x.r.t.x, .int .i64 x.r.t.v.k, .int .i64 x.r.t.v.n, .string x.r.t.v.s, .slice Q qn qc, .int .i64 x.pos]] w (RetBool (cmpB3 x) w) := by
  have hba : Below w.heap.size w (w.alloc (.cells #[.int .i64 x.k, .string x.atom.rel, .slice A n c, .int .i64 x.op, .int .i64 x.l.op, .string x.l.t.x, .int .i64 x.l.t.v.k, .int .i64 x.l.t.v.n, .string x.l.t.v.s, .slice P pn pc, .int .i64 x.r.op, .string x.r.t.x, .int .i64 x.r.t.v.k, .int .i64 x.r.t.v.n, .string x.r.t.v.s, .slice Q qn qc, .int .i64 x.pos] 51)) := belowA (Below.refl _ _) _
  have hrb : (w.alloc (.cells #[.int .i64 x.k, .string x.atom.rel, .slice A n c, .int .i64 x.op, .int .i64 x.l.op, .string x.l.t.x, .int .i64 x.l.t.v.k, .int .i64 x.l.t.v.n, .string x.l.t.v.s, .slice P pn pc, .int .i64 x.r.op, .string x.r.t.x, .int .i64 x.r.t.v.k, .int .i64 x.r.t.v.n, .string x.r.t.v.s, .slice Q qn qc, .int .i64 x.pos] 51)).heap[w.heap.size]? = some (.cells #[.int .i64 x.k, .string x.atom.rel, .slice A n c, .int .i64 x.op, .int .i64 x.l.op, .string x.l.t.x, .int .i64 x.l.t.v.k, .int .i64 x.l.t.v.n, .string x.l.t.v.s, .slice P pn pc, .int .i64 x.r.op, .string x.r.t.x, .int .i64 x.r.t.v.k, .int .i64 x.r.t.v.n, .string x.r.t.v.s, .slice Q qn qc, .int .i64 x.pos] 51 (0, 0)) := heapNew rfl
  have HC := Lib.hid (refRightLit_any d x ⟨A, n, c⟩ ⟨P, pn, pc⟩ ⟨Q, qn, qc⟩ _ (h.keep hba))
  have HB := Lib.hid hba
  obtain ⟨f0, f1, f2, f3, f4, f5, f6, f7, f8, f9, f10, f11, f12, f13, f14, f15, f16⟩ := facts17 hrb
  clear h hba hrb
  generalize hwb : (w.alloc (.cells #[.int .i64 x.k, .string x.atom.rel, .slice A n c, .int .i64 x.op, .int .i64 x.l.op, .string x.l.t.x, .int .i64 x.l.t.v.k, .int .i64 x.l.t.v.n, .string x.l.t.v.s, .slice P pn pc, .int .i64 x.r.op, .string x.r.t.x, .int .i64 x.r.t.v.k, .int .i64 x.r.t.v.n, .string x.r.t.v.s, .slice Q qn qc, .int .i64 x.pos] 51)) = wb at *
  by_cases hk : x.k = 3
  · have q0 : (x.k == 3) = true := by simp [hk]
    have HE : Hid (cmpB3 x = rightLit x) := by show _ = _; simp [cmpB3, hk]
    generalize rightLit x = r at *
    clear hk
    go_enter Tryz.func24, Tryz.ntmps24
    go_wp2_with fail
    try simp only [hwb]
    clear hwb
    go_wp2_with fail
    refine HC.out.mono ?_
    rintro e w1 ⟨rfl, hb1⟩
    go_wp2_with fail
    go_ret
    exact ⟨by rw [HE.out]; rfl, below_next HB.out hb1⟩
  · have q0 : (x.k == 3) = false := by simp [hk]
    have HE : Hid (cmpB3 x = false) := by show _ = _; simp [cmpB3, hk]
    clear hk HC
    go_enter Tryz.func24, Tryz.ntmps24
    go_wp2_with fail
    try simp only [hwb]
    go_wp2_with fail
    go_ret
    exact ⟨by rw [HE.out]; rfl, HB.out⟩
set_option maxRecDepth 100000 in
set_option maxHeartbeats 2000000 in
theorem refAlone_any (x : GExp) (A : Option Addr) (n c : Nat) (B : Option Addr) (bn bc : Nat) (l : List GTold) (w : World) (hx : x.t.x.size ≤ reachN) (hl : SliceIs Enc.told w w.heap.size B bn bc l) :
    Calls Tryz.prog 104 #[expV x A n c, .slice B bn bc] w (RetBool (aloneS (getT l) x) w) := by
  have hba : Below w.heap.size w (w.alloc (.cells #[.int .i64 x.op, .string x.t.x, .int .i64 x.t.v.k, .int .i64 x.t.v.n, .string x.t.v.s, .slice A n c] 49)) := belowA (Below.refl _ _) _
  have hr1 : (w.alloc (.cells #[.int .i64 x.op, .string x.t.x, .int .i64 x.t.v.k, .int .i64 x.t.v.n, .string x.t.v.s, .slice A n c] 49)).heap[w.heap.size]? = some (.cells #[.int .i64 x.op, .string x.t.x, .int .i64 x.t.v.k, .int .i64 x.t.v.n, .string x.t.v.s, .slice A n c] 49 (0, 0)) := heapNew rfl
  have HG := Lib.hid (get_any B bn bc l x.t.x _ (hl.keep hba))
  unfold GetPost at HG
  have HB := Lib.hid hba
  have hz : x.t.x.size ≤ 140737488351232 := hx
  have HF : Hid (∀ W, Below (w.alloc (.cells #[.int .i64 x.op, .string x.t.x, .int .i64 x.t.v.k, .int .i64 x.t.v.n, .string x.t.v.s, .slice A n c] 49)).heap.size (w.alloc (.cells #[.int .i64 x.op, .string x.t.x, .int .i64 x.t.v.k, .int .i64 x.t.v.n, .string x.t.v.s, .slice A n c] 49)) W → W.heap[w.heap.size]? = some (.cells #[.int .i64 x.op, .string x.t.x, .int .i64 x.t.v.k, .int .i64 x.t.v.n, .string x.t.v.s, .slice A n c] 49 (0, 0))) := fun W h => (h.block _ (Array.getElem?_eq_some_iff.1 hr1).1).trans hr1
  obtain ⟨f0, f1, f2, f3, f4, f5⟩ := facts6 hr1
  obtain ⟨S, HS⟩ : ∃ S, Hid (S = aloneS (getT l) x) := ⟨_, rfl⟩
  rw [← HS.out]
  clear hba hr1 hl hx
  obtain ⟨o, ho⟩ : ∃ o, getT l x.t.x = o := ⟨_, rfl⟩
  rw [ho] at HG
  obtain ⟨v, hv⟩ : ∃ v, o.getD zeroV = v := ⟨_, rfl⟩
  rw [hv] at HG
  obtain ⟨t, ht⟩ : ∃ t, o.isSome = t := ⟨_, rfl⟩
  rw [ht] at HG
  have HA : Hid (S = (decide (x.op = 0) && (decide (x.t.x.size ≠ 0) && !t))) := by
    show _ = _
    rw [HS.out, ← ht]
    unfold aloneS
    rw [ho]
    cases o <;> rfl
  clear HS hv ht ho
  generalize hwb : (w.alloc (.cells #[.int .i64 x.op, .string x.t.x, .int .i64 x.t.v.k, .int .i64 x.t.v.n, .string x.t.v.s, .slice A n c] 49)) = wb at *
  have hO : ∃ b, (x.op == 0) = b ∧ decide (x.op = 0) = b := ⟨_, rfl, by by_cases h : x.op = 0 <;> simp [h]⟩
  obtain ⟨b, q0, e0⟩ := hO
  rw [e0] at HA
  clear e0
  by_cases h1 : x.t.x.size = 0
  · have q1 : ¬ (0 : Int) < (x.t.x.size : Int) := by omega
    have HA2 : Hid (S = false) := by show _ = _; rw [HA.out]; simp [h1]
    clear HA h1
    cases b
    all_goals
      go_enter Tryz.func104, Tryz.ntmps104
      go_wp2_with fail
      try simp only [hwb]
      go_wp2_with fail
      refine HG.out.mono ?_
      rintro e w1 ⟨rfl, hb1⟩
      obtain ⟨g0, g1, g2, g3, g4, g5⟩ := facts6 (HF.out _ (belowA hb1 (.cells #[.int .i64 v.k, .int .i64 v.n, .string v.s] 28)))
      have HB1 := Lib.hid (below_next HB.out hb1)
      clear hb1
      go_wp2_with fail
      go_ret
      exact ⟨by rw [HA2.out]; rfl, belowA HB1.out _⟩
  · have q1 : (0 : Int) < (x.t.x.size : Int) := by omega
    have HA2 : Hid (S = (b && !t)) := by show _ = _; rw [HA.out]; simp [h1]
    clear HA h1
    cases b
    all_goals
      go_enter Tryz.func104, Tryz.ntmps104
      go_wp2_with fail
      try simp only [hwb]
      go_wp2_with fail
      refine HG.out.mono ?_
      rintro e w1 ⟨rfl, hb1⟩
      obtain ⟨g0, g1, g2, g3, g4, g5⟩ := facts6 (HF.out _ (belowA hb1 (.cells #[.int .i64 v.k, .int .i64 v.n, .string v.s] 28)))
      have HB1 := Lib.hid (below_next HB.out hb1)
      clear hb1
      go_wp2_with fail
      go_ret
      exact ⟨by rw [HA2.out]; simp, belowA HB1.out _⟩
theorem rightB_ok {v : GV} (h : rightB v = true) : v.ok := by
  unfold rightB at h
  split at h
  · rename_i h1
    simp only [Bool.and_eq_true, decide_eq_true_eq] at h
    refine ⟨by rw [h1]; unfold fits; decide, ?_, by rw [h.1.1]; exact Nat.zero_le _⟩
    have h3 := h.1.2
    have h4 := h.2
    exact fits_of (by omega) (by omega)
  · rename_i h1
    split at h
    · rename_i h2
      simp only [Bool.and_eq_true, decide_eq_true_eq] at h
      exact ⟨by rw [h2]; unfold fits; decide, by rw [h.1]; unfold fits; decide, by have h2 := h.2; unfold nameOk at h2; simp only [Bool.and_eq_true, decide_eq_true_eq] at h2; have := h2.1.1.2; unfold reachN; omega⟩
    · cases h
set_option maxRecDepth 100000 in
set_option maxHeartbeats 4000000 in
theorem refTest_any (d : Nat) (x : GLit) (A : Option Addr) (n c : Nat) (P : Option Addr) (pn pc : Nat) (Q : Option Addr) (qn qc : Nat) (B : Option Addr) (bn bc : Nat) (l : List GTold) (w : World) (h : LitAt d w w.heap.size x ⟨A, n, c⟩ ⟨P, pn, pc⟩ ⟨Q, qn, qc⟩) (hl : SliceIs Enc.told w w.heap.size B bn bc l) (hL : rightE 20 x.l = true) (hR : rightE 20 x.r = true) : Calls Tryz.prog 26 #[.agg #[.int .i64 x.k, .string x.atom.rel, .slice A n c, .int .i64 x.op, .int .i64 x.l.op, .string x.l.t.x, .int .i64 x.l.t.v.k, .int .i64 x.l.t.v.n, .string x.l.t.v.s, .slice P pn pc, .int .i64 x.r.op, .string x.r.t.x, .int .i64 x.r.t.v.k, .int .i64 x.r.t.v.n, .string x.r.t.v.s, .slice Q qn qc, .int .i64 x.pos], .slice B bn bc] w (RetBE (testS (getT l) x.op x.l x.r) errI w) := by
  have hba : Below w.heap.size w (w.alloc (.cells #[.int .i64 x.k, .string x.atom.rel, .slice A n c, .int .i64 x.op, .int .i64 x.l.op, .string x.l.t.x, .int .i64 x.l.t.v.k, .int .i64 x.l.t.v.n, .string x.l.t.v.s, .slice P pn pc, .int .i64 x.r.op, .string x.r.t.x, .int .i64 x.r.t.v.k, .int .i64 x.r.t.v.n, .string x.r.t.v.s, .slice Q qn qc, .int .i64 x.pos] 51)) := belowA (Below.refl _ _) _
  have hrb : (w.alloc (.cells #[.int .i64 x.k, .string x.atom.rel, .slice A n c, .int .i64 x.op, .int .i64 x.l.op, .string x.l.t.x, .int .i64 x.l.t.v.k, .int .i64 x.l.t.v.n, .string x.l.t.v.s, .slice P pn pc, .int .i64 x.r.op, .string x.r.t.x, .int .i64 x.r.t.v.k, .int .i64 x.r.t.v.n, .string x.r.t.v.s, .slice Q qn qc, .int .i64 x.pos] 51)).heap[w.heap.size]? = some (.cells #[.int .i64 x.k, .string x.atom.rel, .slice A n c, .int .i64 x.op, .int .i64 x.l.op, .string x.l.t.x, .int .i64 x.l.t.v.k, .int .i64 x.l.t.v.n, .string x.l.t.v.s, .slice P pn pc, .int .i64 x.r.op, .string x.r.t.x, .int .i64 x.r.t.v.k, .int .i64 x.r.t.v.n, .string x.r.t.v.s, .slice Q qn qc, .int .i64 x.pos] 51 (0, 0)) := heapNew rfl
  have HL := Lib.hid (fun (W : World) (hb : Below w.heap.size w W) => refEval_any B bn bc l 20 x.l P pn pc d W hL (h.keep hb).lk h.lv (hl.keep hb))
  have HR := Lib.hid (fun (W : World) (hb : Below w.heap.size w W) => refEval_any B bn bc l 20 x.r Q qn qc d W hR (h.keep hb).rk h.rv (hl.keep hb))
  have HB := Lib.hid hba
  have HF : Hid (∀ W, Below (w.alloc (.cells #[.int .i64 x.k, .string x.atom.rel, .slice A n c, .int .i64 x.op, .int .i64 x.l.op, .string x.l.t.x, .int .i64 x.l.t.v.k, .int .i64 x.l.t.v.n, .string x.l.t.v.s, .slice P pn pc, .int .i64 x.r.op, .string x.r.t.x, .int .i64 x.r.t.v.k, .int .i64 x.r.t.v.n, .string x.r.t.v.s, .slice Q qn qc, .int .i64 x.pos] 51)).heap.size (w.alloc (.cells #[.int .i64 x.k, .string x.atom.rel, .slice A n c, .int .i64 x.op, .int .i64 x.l.op, .string x.l.t.x, .int .i64 x.l.t.v.k, .int .i64 x.l.t.v.n, .string x.l.t.v.s, .slice P pn pc, .int .i64 x.r.op, .string x.r.t.x, .int .i64 x.r.t.v.k, .int .i64 x.r.t.v.n, .string x.r.t.v.s, .slice Q qn qc, .int .i64 x.pos] 51)) W → W.heap[w.heap.size]? = some (.cells #[.int .i64 x.k, .string x.atom.rel, .slice A n c, .int .i64 x.op, .int .i64 x.l.op, .string x.l.t.x, .int .i64 x.l.t.v.k, .int .i64 x.l.t.v.n, .string x.l.t.v.s, .slice P pn pc, .int .i64 x.r.op, .string x.r.t.x, .int .i64 x.r.t.v.k, .int .i64 x.r.t.v.n, .string x.r.t.v.s, .slice Q qn qc, .int .i64 x.pos] 51 (0, 0))) := fun W hb => (hb.block _ (Array.getElem?_eq_some_iff.1 hrb).1).trans hrb
  obtain ⟨f0, f1, f2, f3, f4, f5, f6, f7, f8, f9, f10, f11, f12, f13, f14, f15, f16⟩ := facts17 hrb
  obtain ⟨K, HK⟩ : ∃ K : Ending → World → Prop, Hid (K = RetBE (testS (getT l) x.op x.l x.r) errI w) := ⟨_, rfl⟩
  rw [← HK.out]
  have HPost : Hid (∀ q : Bool × Int, testS (getT l) x.op x.l x.r = q → ∀ w', Below w.heap.size w w' → K (.returned (.tuple #[.bool q.1, .int .i64 q.2])) w') := fun p hp w' hb => by rw [HK.out, hp]; exact ⟨rfl, hb⟩
  have hts : testS (getT l) x.op x.l x.r = if (evalS (getT l) 20 x.l).2 ≠ 0 then (false, (evalS (getT l) 20 x.l).2) else if (evalS (getT l) 20 x.r).2 ≠ 0 then (false, (evalS (getT l) 20 x.r).2) else holdsS x.op (evalS (getT l) 20 x.l).1 (evalS (getT l) 20 x.r).1 := rfl
  have HO1 := Lib.hid (fun he => rightB_ok (evalS_ok (f := getT l) (k := 20) (e := x.l) he))
  have HO2 := Lib.hid (fun he => rightB_ok (evalS_ok (f := getT l) (k := 20) (e := x.r) he))
  unfold TermErr errI at HL HR
  clear h hl hL hR hba hrb HK
  generalize testS (getT l) x.op x.l x.r = tq at *
  generalize evalS (getT l) 20 x.l = p1 at *
  generalize evalS (getT l) 20 x.r = p2 at *
  obtain ⟨v1, e1⟩ := p1
  obtain ⟨v2, e2⟩ := p2
  dsimp only at HL HR hts HO1 HO2
  generalize hwb : (w.alloc (.cells #[.int .i64 x.k, .string x.atom.rel, .slice A n c, .int .i64 x.op, .int .i64 x.l.op, .string x.l.t.x, .int .i64 x.l.t.v.k, .int .i64 x.l.t.v.n, .string x.l.t.v.s, .slice P pn pc, .int .i64 x.r.op, .string x.r.t.x, .int .i64 x.r.t.v.k, .int .i64 x.r.t.v.n, .string x.r.t.v.s, .slice Q qn qc, .int .i64 x.pos] 51)) = wb at *
  by_cases he1 : e1 = 0
  rotate_left
  · have HG := Lib.hid (HPost.out (false, e1) (by rw [hts, if_pos he1]))
    have q1 : (e1 != 0) = true := by simp [he1]
    dsimp only at HG
    clear hts he1 HPost HR HO1 HO2
    go_enter Tryz.func26, Tryz.ntmps26
    go_wp2_with fail
    try simp only [hwb]
    clear hwb
    go_wp2_with fail
    refine (HL.out _ HB.out).mono ?_
    rintro e w2 ⟨rfl, hb2⟩
    have HB2 := Lib.hid (below_next HB.out hb2)
    clear hb2 f0 f1 f2 f3 f4 f5 f6 f7 f8 f9 f10 f11 f12 f13 f14 f15 f16
    go_wp2_with fail
    try go_ret2
    exact HG.out _ (belowA HB2.out _)
  subst he1
  rw [if_neg (by simp)] at hts
  have Ho1 := HO1.out rfl
  by_cases he2 : e2 = 0
  rotate_left
  · have HG := Lib.hid (HPost.out (false, e2) (by rw [hts, if_pos he2]))
    have q1 : (e2 != 0) = true := by simp [he2]
    dsimp only at HG
    clear hts he2 HPost HO1 HO2 Ho1
    go_enter Tryz.func26, Tryz.ntmps26
    go_wp2_with fail
    try simp only [hwb]
    clear hwb
    go_wp2_with fail
    refine (HL.out _ HB.out).mono ?_
    rintro e w2 ⟨rfl, hb2⟩
    have HB2 := Lib.hid (belowA hb2 (.cells #[.int .i64 v1.k, .int .i64 v1.n, .string v1.s] 28))
    obtain ⟨k0, k1, k2, k3, k4, k5, k6, k7, k8, k9, k10, k11, k12, k13, k14, k15, k16⟩ := facts17 (HF.out _ HB2.out)
    clear hb2 f0 f1 f2 f3 f4 f5 f6 f7 f8 f9 f10 f11 f12 f13 f14 f15 f16
    generalize hwd : w2.alloc (.cells #[.int .i64 v1.k, .int .i64 v1.n, .string v1.s] 28) = wd at *
    go_wp2_with fail
    try simp only [hwd]
    clear hwd
    go_wp2_with fail
    refine (HR.out _ (below_next HB.out HB2.out)).mono ?_
    rintro e w3 ⟨rfl, hb3⟩
    have HB3 := Lib.hid (below_next (below_next HB.out HB2.out) hb3)
    clear hb3 k0 k1 k2 k3 k4 k5 k6 k7 k8 k9 k10 k11 k12 k13 k14 k15 k16
    go_wp2_with fail
    try go_ret2
    exact HG.out _ (belowA HB3.out _)
  subst he2
  rw [if_neg (by simp)] at hts
  have HH := Lib.hid (fun W => refHolds_any x.op v1 v2 Ho1 (HO2.out rfl) W)
  have HG := Lib.hid (HPost.out _ hts)
  unfold RetBE at HH
  clear hts HPost HO1 HO2 Ho1
  generalize holdsS x.op v1 v2 = hq at *
  obtain ⟨hq1, hq2⟩ := hq
  dsimp only at HG HH
  go_enter Tryz.func26, Tryz.ntmps26
  go_wp2_with fail
  try simp only [hwb]
  clear hwb
  go_wp2_with fail
  refine (HL.out _ HB.out).mono ?_
  rintro e w2 ⟨rfl, hb2⟩
  have HB2 := Lib.hid (belowA hb2 (.cells #[.int .i64 v1.k, .int .i64 v1.n, .string v1.s] 28))
  have hn2 := heapNew (w := w2) (o := .cells #[.int .i64 v1.k, .int .i64 v1.n, .string v1.s] 28) rfl
  obtain ⟨k0, k1, k2, k3, k4, k5, k6, k7, k8, k9, k10, k11, k12, k13, k14, k15, k16⟩ := facts17 (HF.out _ HB2.out)
  clear hb2 f0 f1 f2 f3 f4 f5 f6 f7 f8 f9 f10 f11 f12 f13 f14 f15 f16
  generalize hwd : w2.alloc (.cells #[.int .i64 v1.k, .int .i64 v1.n, .string v1.s] 28) = wd at *
  go_wp2_with fail
  try simp only [hwd]
  clear hwd
  go_wp2_with fail
  refine (HR.out _ (below_next HB.out HB2.out)).mono ?_
  rintro e w3 ⟨rfl, hb3⟩
  have HB3 := Lib.hid (belowA (below_next HB2.out hb3) (.cells #[.int .i64 v2.k, .int .i64 v2.n, .string v2.s] 28))
  have hn3 := heapOld (o := .cells #[.int .i64 v2.k, .int .i64 v2.n, .string v2.s] 28) ((hb3.block _ (Array.getElem?_eq_some_iff.1 hn2).1).trans hn2)
  obtain ⟨f0, f1, f2, f3, f4, f5, f6, f7, f8, f9, f10, f11, f12, f13, f14, f15, f16⟩ := facts17 (HF.out _ HB3.out)
  obtain ⟨a0, a1, a2⟩ := facts3 hn3
  obtain ⟨c0, c1, c2⟩ := facts3 (heapNew (w := w3) (o := .cells #[.int .i64 v2.k, .int .i64 v2.n, .string v2.s] 28) rfl)
  clear hb3 k0 k1 k2 k3 k4 k5 k6 k7 k8 k9 k10 k11 k12 k13 k14 k15 k16 hn2 hn3
  generalize hwd : w3.alloc (.cells #[.int .i64 v2.k, .int .i64 v2.n, .string v2.s] 28) = wd at *
  go_wp2_with fail
  try simp only [hwd]
  clear hwd
  go_wp2_with fail
  refine (HH.out _).mono ?_
  rintro e w4 ⟨rfl, hb4⟩
  have HB4 := Lib.hid (below_next (below_next HB.out HB3.out) hb4)
  clear hb4 f0 f1 f2 f3 f4 f5 f6 f7 f8 f9 f10 f11 f12 f13 f14 f15 f16
  go_wp2_with fail
  try go_ret2
  exact HG.out _ HB4.out
end Go.Proofs.YtgabkmibfhmkmaaGreatDoor

namespace Go.Proofs.YtgabkmibfhmkmaaGreatDoor
open Go.RowKit
def RLitRow (W : World) (b : Nat) (x : GLit) (A : Option Addr) (n c : Nat) (P : Option Addr) (pn pc : Nat) (Q : Option Addr) (qn qc : Nat) : Prop := W.heap[b]? = some (.cells #[.int .i64 x.k, .string x.atom.rel, .slice A n c, .int .i64 x.op, .int .i64 x.l.op, .string x.l.t.x, .int .i64 x.l.t.v.k, .int .i64 x.l.t.v.n, .string x.l.t.v.s, .slice P pn pc, .int .i64 x.r.op, .string x.r.t.x, .int .i64 x.r.t.v.k, .int .i64 x.r.t.v.n, .string x.r.t.v.s, .slice Q qn qc, .int .i64 x.pos] 51 (0, 0))
theorem RLitRow.facts {W : World} {g : Nat} {x : GLit} {A : Option Addr} {n c : Nat} {P : Option Addr} {pn pc : Nat} {Q : Option Addr} {qn qc : Nat} (h : RLitRow W g x A n c P pn pc Q qn qc) : W.cell? ⟨g, 0, none⟩ = some (.int .i64 x.k) ∧ W.cell? ⟨g, 1, none⟩ = some (.string x.atom.rel) ∧ W.cell? ⟨g, 2, none⟩ = some (.slice A n c) ∧ W.cell? ⟨g, 3, none⟩ = some (.int .i64 x.op) ∧ W.cell? ⟨g, 4, none⟩ = some (.int .i64 x.l.op) ∧ W.cell? ⟨g, 5, none⟩ = some (.string x.l.t.x) ∧ W.cell? ⟨g, 6, none⟩ = some (.int .i64 x.l.t.v.k) ∧ W.cell? ⟨g, 7, none⟩ = some (.int .i64 x.l.t.v.n) ∧ W.cell? ⟨g, 8, none⟩ = some (.string x.l.t.v.s) ∧ W.cell? ⟨g, 9, none⟩ = some (.slice P pn pc) ∧ W.cell? ⟨g, 10, none⟩ = some (.int .i64 x.r.op) ∧ W.cell? ⟨g, 11, none⟩ = some (.string x.r.t.x) ∧ W.cell? ⟨g, 12, none⟩ = some (.int .i64 x.r.t.v.k) ∧ W.cell? ⟨g, 13, none⟩ = some (.int .i64 x.r.t.v.n) ∧ W.cell? ⟨g, 14, none⟩ = some (.string x.r.t.v.s) ∧ W.cell? ⟨g, 15, none⟩ = some (.slice Q qn qc) ∧ W.cell? ⟨g, 16, none⟩ = some (.int .i64 x.pos) := facts17 h
theorem frz6 {w : World} {b : Nat} {cs : Array Value} {T : TypeId} (h : w.heap[b]? = some (.cells cs T (0, 0))) : w.frozen? ⟨b, 0, none⟩ = false ∧ w.frozen? ⟨b, 1, none⟩ = false ∧ w.frozen? ⟨b, 2, none⟩ = false ∧ w.frozen? ⟨b, 3, none⟩ = false ∧ w.frozen? ⟨b, 4, none⟩ = false ∧ w.frozen? ⟨b, 5, none⟩ = false :=
  ⟨frozen_of_row _ _ _ _ _ h, frozen_of_row _ _ _ _ _ h, frozen_of_row _ _ _ _ _ h, frozen_of_row _ _ _ _ _ h, frozen_of_row _ _ _ _ _ h, frozen_of_row _ _ _ _ _ h⟩
/-- what the document solves -/
def RSolveP (f : ByteArray → Option GV) (r : Option (ByteArray × GV) × Bool × Int) (w : World) (e : Ending) (w' : World) : Prop :=
  Below w.heap.size w w' ∧ ((r.2.1 = true ∧ r.2.2 = 0 ∧ ∃ A n c l, e = .returned (.tuple #[.slice A n c, .bool true, .int .i64 0]) ∧ SliceIs Enc.told w' w'.heap.size A n c l ∧ ∀ s, getT l s = updO f r.1 s) ∨ (r.2.1 = false ∧ e = .returned (.tuple #[.slice none 0 0, .bool false, .int .i64 r.2.2])))
theorem getT_snoc {l : List GTold} {s : ByteArray} {v : GV} (h : getT l s = none) : ∀ y, getT (l ++ [⟨s, v⟩]) y = upd (getT l) s v y := by
  intro y
  unfold upd
  simp only [getT, List.find?_append, Option.map_or] at h ⊢
  by_cases hy : s = y
  · subst hy
    rw [if_pos rfl, h]
    simp
  · rw [if_neg hy]
    have : (s == y) = false := by simpa using hy
    simp [this]
end Go.Proofs.YtgabkmibfhmkmaaGreatDoor

namespace Go.Proofs.YtgabkmibfhmkmaaGreatDoor
open Go.RowKit
set_option linter.unusedVariables false
set_option maxRecDepth 100000 in
set_option maxHeartbeats 8000000 in
theorem refSolveAe (d : Nat) (x : GLit) (A : Option Addr) (n c : Nat) (P : Option Addr) (pn pc : Nat) (Q : Option Addr) (qn qc : Nat) (B : Option Addr) (bn bc : Nat) (l : List GTold) (w : World) (h : LitAt d w w.heap.size x ⟨A, n, c⟩ ⟨P, pn, pc⟩ ⟨Q, qn, qc⟩) (hl : SliceIs Enc.told w w.heap.size B bn bc l) (hn : bn ≤ 1000000) (hL : rightE 20 x.l = true) (hR : rightE 20 x.r = true) (hq : x.op = 1) (ha : aloneS (getT l) x.l = true) (he : ¬ (evalS (getT l) 20 x.r).2 = 0) :
    Calls Tryz.prog 27 #[.agg #[.int .i64 x.k, .string x.atom.rel, .slice A n c, .int .i64 x.op, .int .i64 x.l.op, .string x.l.t.x, .int .i64 x.l.t.v.k, .int .i64 x.l.t.v.n, .string x.l.t.v.s, .slice P pn pc, .int .i64 x.r.op, .string x.r.t.x, .int .i64 x.r.t.v.k, .int .i64 x.r.t.v.n, .string x.r.t.v.s, .slice Q qn qc, .int .i64 x.pos], .slice B bn bc] w (RSolveP (getT l) (solveS (getT l) x.op x.l x.r) w) := by
  have mixed : Tryz.prog.follows .mixedOrders = true := by kernel_rfl
  have hba : Below w.heap.size w (w.alloc (.cells #[.int .i64 x.k, .string x.atom.rel, .slice A n c, .int .i64 x.op, .int .i64 x.l.op, .string x.l.t.x, .int .i64 x.l.t.v.k, .int .i64 x.l.t.v.n, .string x.l.t.v.s, .slice P pn pc, .int .i64 x.r.op, .string x.r.t.x, .int .i64 x.r.t.v.k, .int .i64 x.r.t.v.n, .string x.r.t.v.s, .slice Q qn qc, .int .i64 x.pos] 51)) := belowA (Below.refl _ _) _
  have hrb : (w.alloc (.cells #[.int .i64 x.k, .string x.atom.rel, .slice A n c, .int .i64 x.op, .int .i64 x.l.op, .string x.l.t.x, .int .i64 x.l.t.v.k, .int .i64 x.l.t.v.n, .string x.l.t.v.s, .slice P pn pc, .int .i64 x.r.op, .string x.r.t.x, .int .i64 x.r.t.v.k, .int .i64 x.r.t.v.n, .string x.r.t.v.s, .slice Q qn qc, .int .i64 x.pos] 51)).heap[w.heap.size]? = some (.cells #[.int .i64 x.k, .string x.atom.rel, .slice A n c, .int .i64 x.op, .int .i64 x.l.op, .string x.l.t.x, .int .i64 x.l.t.v.k, .int .i64 x.l.t.v.n, .string x.l.t.v.s, .slice P pn pc, .int .i64 x.r.op, .string x.r.t.x, .int .i64 x.r.t.v.k, .int .i64 x.r.t.v.n, .string x.r.t.v.s, .slice Q qn qc, .int .i64 x.pos] 51 (0, 0)) := heapNew rfl
  have HB := Lib.hid hba
  have HF : Hid (∀ W, Below (w.alloc (.cells #[.int .i64 x.k, .string x.atom.rel, .slice A n c, .int .i64 x.op, .int .i64 x.l.op, .string x.l.t.x, .int .i64 x.l.t.v.k, .int .i64 x.l.t.v.n, .string x.l.t.v.s, .slice P pn pc, .int .i64 x.r.op, .string x.r.t.x, .int .i64 x.r.t.v.k, .int .i64 x.r.t.v.n, .string x.r.t.v.s, .slice Q qn qc, .int .i64 x.pos] 51)).heap.size (w.alloc (.cells #[.int .i64 x.k, .string x.atom.rel, .slice A n c, .int .i64 x.op, .int .i64 x.l.op, .string x.l.t.x, .int .i64 x.l.t.v.k, .int .i64 x.l.t.v.n, .string x.l.t.v.s, .slice P pn pc, .int .i64 x.r.op, .string x.r.t.x, .int .i64 x.r.t.v.k, .int .i64 x.r.t.v.n, .string x.r.t.v.s, .slice Q qn qc, .int .i64 x.pos] 51)) W → RLitRow W w.heap.size x A n c P pn pc Q qn qc) := fun W hb => (hb.block _ (Array.getElem?_eq_some_iff.1 hrb).1).trans hrb
  have HAl := Lib.hid (fun (W : World) (hb : Below w.heap.size w W) => refAlone_any x.l P pn pc B bn bc l W h.lx (hl.keep hb))
  have HAr := Lib.hid (fun (W : World) (hb : Below w.heap.size w W) => refAlone_any x.r Q qn qc B bn bc l W h.rx (hl.keep hb))
  obtain ⟨f0, f1, f2, f3, f4, f5, f6, f7, f8, f9, f10, f11, f12, f13, f14, f15, f16⟩ := (HF.out _ (Below.refl _ _)).facts
  obtain ⟨K, HK⟩ : ∃ K : Ending → World → Prop, Hid (K = RSolveP (getT l) (solveS (getT l) x.op x.l x.r) w) := ⟨_, rfl⟩
  rw [← HK.out]
  have q0 : (x.op == 1) = true := by simp [hq]
  have hS : solveS (getT l) x.op x.l x.r = setS (getT l) x.l.t.x x.r := by unfold solveS; rw [if_pos ⟨hq, ha⟩]
  have HE := Lib.hid (fun (W : World) (hb : Below w.heap.size w W) => refEval_any B bn bc l 20 x.r Q qn qc d W hR (h.keep hb).rk h.rv (hl.keep hb))
  unfold TermErr errI at HE
  have HG : Hid (∀ w', Below w.heap.size w w' → K (.returned (.tuple #[.slice none 0 0, .bool false, .int .i64 (evalS (getT l) 20 x.r).2])) w') := fun w' hb => by rw [HK.out, hS, setS, if_pos he]; exact ⟨hb, .inr ⟨rfl, rfl⟩⟩
  have q1 : ((evalS (getT l) 20 x.r).2 != 0) = true := by simp [he]
  generalize evalS (getT l) 20 x.r = p at *
  obtain ⟨v, te⟩ := p
  dsimp only at HE HG q1
  rw [ha] at HAl
  clear hba hrb HK hS he hq h hl hL hR ha
  generalize hwb : (w.alloc (.cells #[.int .i64 x.k, .string x.atom.rel, .slice A n c, .int .i64 x.op, .int .i64 x.l.op, .string x.l.t.x, .int .i64 x.l.t.v.k, .int .i64 x.l.t.v.n, .string x.l.t.v.s, .slice P pn pc, .int .i64 x.r.op, .string x.r.t.x, .int .i64 x.r.t.v.k, .int .i64 x.r.t.v.n, .string x.r.t.v.s, .slice Q qn qc, .int .i64 x.pos] 51)) = wb at *
  have HB0 := Lib.hid (Below.refl wb.heap.size wb)
  go_enter Tryz.func27, Tryz.ntmps27
  go_wp2_with fail
  try simp only [hwb]
  clear hwb
  generalize (.agg #[.int .i64 x.k, .string x.atom.rel, .slice A n c, .int .i64 x.op, .int .i64 x.l.op, .string x.l.t.x, .int .i64 x.l.t.v.k, .int .i64 x.l.t.v.n, .string x.l.t.v.s, .slice P pn pc, .int .i64 x.r.op, .string x.r.t.x, .int .i64 x.r.t.v.k, .int .i64 x.r.t.v.n, .string x.r.t.v.s, .slice Q qn qc, .int .i64 x.pos] : Value) = LV0
  go_wp2_with fail
  refine (HAl.out _ (below_next HB.out HB0.out)).mono ?_
  rintro e w1 ⟨rfl, hb1⟩
  have HB1 := Lib.hid (below_next HB0.out hb1)
  obtain ⟨g0, g1, g2, g3, g4, g5, g6, g7, g8, g9, g10, g11, g12, g13, g14, g15, g16⟩ := (HF.out _ HB1.out).facts
  clear hb1 f0 f1 f2 f3 f4 f5 f6 f7 f8 f9 f10 f11 f12 f13 f14 f15 f16
  go_wp2_with fail
  have Hk : Hid (∀ W, Below w1.heap.size w1 W → W.cell? ⟨w.heap.size, 0, none⟩ = some (.int .i64 x.k) ∧ W.cell? ⟨w.heap.size, 1, none⟩ = some (.string x.atom.rel) ∧ W.cell? ⟨w.heap.size, 2, none⟩ = some (.slice A n c) ∧ W.cell? ⟨w.heap.size, 3, none⟩ = some (.int .i64 x.op) ∧ W.cell? ⟨w.heap.size, 4, none⟩ = some (.int .i64 x.l.op) ∧ W.cell? ⟨w.heap.size, 5, none⟩ = some (.string x.l.t.x) ∧ W.cell? ⟨w.heap.size, 6, none⟩ = some (.int .i64 x.l.t.v.k) ∧ W.cell? ⟨w.heap.size, 7, none⟩ = some (.int .i64 x.l.t.v.n) ∧ W.cell? ⟨w.heap.size, 8, none⟩ = some (.string x.l.t.v.s) ∧ W.cell? ⟨w.heap.size, 9, none⟩ = some (.slice P pn pc) ∧ W.cell? ⟨w.heap.size, 10, none⟩ = some (.int .i64 x.r.op) ∧ W.cell? ⟨w.heap.size, 11, none⟩ = some (.string x.r.t.x) ∧ W.cell? ⟨w.heap.size, 12, none⟩ = some (.int .i64 x.r.t.v.k) ∧ W.cell? ⟨w.heap.size, 13, none⟩ = some (.int .i64 x.r.t.v.n) ∧ W.cell? ⟨w.heap.size, 14, none⟩ = some (.string x.r.t.v.s) ∧ W.cell? ⟨w.heap.size, 15, none⟩ = some (.slice Q qn qc) ∧ W.cell? ⟨w.heap.size, 16, none⟩ = some (.int .i64 x.pos)) := fun W h => (HF.out _ (below_next HB1.out h)).facts
  have hq1 := Below.refl w1.heap.size w1
  go_region_held3 (fun W => W.cell? ⟨w.heap.size, 0, none⟩ = some (.int .i64 x.k) ∧ W.cell? ⟨w.heap.size, 1, none⟩ = some (.string x.atom.rel) ∧ W.cell? ⟨w.heap.size, 2, none⟩ = some (.slice A n c) ∧ W.cell? ⟨w.heap.size, 3, none⟩ = some (.int .i64 x.op) ∧ W.cell? ⟨w.heap.size, 4, none⟩ = some (.int .i64 x.l.op) ∧ W.cell? ⟨w.heap.size, 5, none⟩ = some (.string x.l.t.x) ∧ W.cell? ⟨w.heap.size, 6, none⟩ = some (.int .i64 x.l.t.v.k) ∧ W.cell? ⟨w.heap.size, 7, none⟩ = some (.int .i64 x.l.t.v.n) ∧ W.cell? ⟨w.heap.size, 8, none⟩ = some (.string x.l.t.v.s) ∧ W.cell? ⟨w.heap.size, 9, none⟩ = some (.slice P pn pc) ∧ W.cell? ⟨w.heap.size, 10, none⟩ = some (.int .i64 x.r.op) ∧ W.cell? ⟨w.heap.size, 11, none⟩ = some (.string x.r.t.x) ∧ W.cell? ⟨w.heap.size, 12, none⟩ = some (.int .i64 x.r.t.v.k) ∧ W.cell? ⟨w.heap.size, 13, none⟩ = some (.int .i64 x.r.t.v.n) ∧ W.cell? ⟨w.heap.size, 14, none⟩ = some (.string x.r.t.v.s) ∧ W.cell? ⟨w.heap.size, 15, none⟩ = some (.slice Q qn qc) ∧ W.cell? ⟨w.heap.size, 16, none⟩ = some (.int .i64 x.pos))
    (first
      | (refine Hk.out _ ?_; (repeat (first | with_reducible exact Below.refl _ _ | with_reducible assumption | with_reducible refine Below.drew ?_ | with_reducible refine belowA ?_ _ | with_reducible refine Below.setCell ?_ (Nat.le_refl _) _)); done)
      | go_keep)
    (fail)
  have hb3 : Below wb.heap.size wb (w1.alloc (.cells #[.int .i64 x.r.op, .string x.r.t.x, .int .i64 x.r.t.v.k, .int .i64 x.r.t.v.n, .string x.r.t.v.s, .slice Q qn qc] 49)).drew := below_next HB1.out ((belowA hq1 _).drew)
  have hrw : (w1.alloc (.cells #[.int .i64 x.r.op, .string x.r.t.x, .int .i64 x.r.t.v.k, .int .i64 x.r.t.v.n, .string x.r.t.v.s, .slice Q qn qc] 49)).drew.heap[w1.heap.size]? = some (.cells #[.int .i64 x.r.op, .string x.r.t.x, .int .i64 x.r.t.v.k, .int .i64 x.r.t.v.n, .string x.r.t.v.s, .slice Q qn qc] 49 (0, 0)) := heapNew2 rfl
  generalize (w1.alloc (.cells #[.int .i64 x.r.op, .string x.r.t.x, .int .i64 x.r.t.v.k, .int .i64 x.r.t.v.n, .string x.r.t.v.s, .slice Q qn qc] 49)).drew = w3 at *
  have HB3 := Lib.hid hb3
  obtain ⟨s0, s1, s2, s3, s4, s5, s6, s7, s8, s9, s10, s11, s12, s13, s14, s15, s16⟩ := (HF.out _ hb3).facts
  clear g0 g1 g2 g3 g4 g5 g6 g7 g8 g9 g10 g11 g12 g13 g14 g15 g16 hq1 hb3 Hk
  have Hrw := Lib.hid hrw
  clear hrw
  go_wp2_with fail
  refine (HAl.out _ (below_next HB.out HB3.out)).mono ?_
  rintro e w4 ⟨rfl, hb4⟩
  have hrw4 := (hb4.block _ (Array.getElem?_eq_some_iff.1 Hrw.out).1).trans Hrw.out
  have HB4 := Lib.hid (below_next HB3.out hb4)
  obtain ⟨f0, f1, f2, f3, f4, f5, f6, f7, f8, f9, f10, f11, f12, f13, f14, f15, f16⟩ := (HF.out _ HB4.out).facts
  obtain ⟨y0, y1, y2, y3, y4, y5⟩ := facts6 hrw4
  obtain ⟨z0, z1, z2, z3, z4, z5⟩ := frz6 hrw4
  clear s0 s1 s2 s3 s4 s5 s6 s7 s8 s9 s10 s11 s12 s13 s14 s15 s16 hb4
  go_wp2_with fail
  refine (HE.out _ (below_next HB.out HB4.out)).mono ?_
  rintro e w6 ⟨rfl, hb6⟩
  have HB6 := Lib.hid (belowA (below_next HB4.out hb6) (.cells #[.int .i64 v.k, .int .i64 v.n, .string v.s] 28))
  clear hb6
  go_wp2_with fail
  exact bodyPost_ret (v := .tuple #[.slice none 0 0, .bool false, .int .i64 te]) (by simp [results, Tryz.results27, go_sem]) rfl (HG.out _ (below_next HB.out HB6.out))
set_option maxRecDepth 100000 in
set_option maxHeartbeats 8000000 in
theorem refSolveAt (d : Nat) (x : GLit) (A : Option Addr) (n c : Nat) (P : Option Addr) (pn pc : Nat) (Q : Option Addr) (qn qc : Nat) (B : Option Addr) (bn bc : Nat) (l : List GTold) (w : World) (h : LitAt d w w.heap.size x ⟨A, n, c⟩ ⟨P, pn, pc⟩ ⟨Q, qn, qc⟩) (hl : SliceIs Enc.told w w.heap.size B bn bc l) (hn : bn ≤ 1000000) (hL : rightE 20 x.l = true) (hR : rightE 20 x.r = true) (hq : x.op = 1) (ha : aloneS (getT l) x.l = true) (he : (evalS (getT l) 20 x.r).2 = 0) :
    Calls Tryz.prog 27 #[.agg #[.int .i64 x.k, .string x.atom.rel, .slice A n c, .int .i64 x.op, .int .i64 x.l.op, .string x.l.t.x, .int .i64 x.l.t.v.k, .int .i64 x.l.t.v.n, .string x.l.t.v.s, .slice P pn pc, .int .i64 x.r.op, .string x.r.t.x, .int .i64 x.r.t.v.k, .int .i64 x.r.t.v.n, .string x.r.t.v.s, .slice Q qn qc, .int .i64 x.pos], .slice B bn bc] w (RSolveP (getT l) (solveS (getT l) x.op x.l x.r) w) := by
  have mixed : Tryz.prog.follows .mixedOrders = true := by kernel_rfl
  have hba : Below w.heap.size w (w.alloc (.cells #[.int .i64 x.k, .string x.atom.rel, .slice A n c, .int .i64 x.op, .int .i64 x.l.op, .string x.l.t.x, .int .i64 x.l.t.v.k, .int .i64 x.l.t.v.n, .string x.l.t.v.s, .slice P pn pc, .int .i64 x.r.op, .string x.r.t.x, .int .i64 x.r.t.v.k, .int .i64 x.r.t.v.n, .string x.r.t.v.s, .slice Q qn qc, .int .i64 x.pos] 51)) := belowA (Below.refl _ _) _
  have hrb : (w.alloc (.cells #[.int .i64 x.k, .string x.atom.rel, .slice A n c, .int .i64 x.op, .int .i64 x.l.op, .string x.l.t.x, .int .i64 x.l.t.v.k, .int .i64 x.l.t.v.n, .string x.l.t.v.s, .slice P pn pc, .int .i64 x.r.op, .string x.r.t.x, .int .i64 x.r.t.v.k, .int .i64 x.r.t.v.n, .string x.r.t.v.s, .slice Q qn qc, .int .i64 x.pos] 51)).heap[w.heap.size]? = some (.cells #[.int .i64 x.k, .string x.atom.rel, .slice A n c, .int .i64 x.op, .int .i64 x.l.op, .string x.l.t.x, .int .i64 x.l.t.v.k, .int .i64 x.l.t.v.n, .string x.l.t.v.s, .slice P pn pc, .int .i64 x.r.op, .string x.r.t.x, .int .i64 x.r.t.v.k, .int .i64 x.r.t.v.n, .string x.r.t.v.s, .slice Q qn qc, .int .i64 x.pos] 51 (0, 0)) := heapNew rfl
  have HB := Lib.hid hba
  have HF : Hid (∀ W, Below (w.alloc (.cells #[.int .i64 x.k, .string x.atom.rel, .slice A n c, .int .i64 x.op, .int .i64 x.l.op, .string x.l.t.x, .int .i64 x.l.t.v.k, .int .i64 x.l.t.v.n, .string x.l.t.v.s, .slice P pn pc, .int .i64 x.r.op, .string x.r.t.x, .int .i64 x.r.t.v.k, .int .i64 x.r.t.v.n, .string x.r.t.v.s, .slice Q qn qc, .int .i64 x.pos] 51)).heap.size (w.alloc (.cells #[.int .i64 x.k, .string x.atom.rel, .slice A n c, .int .i64 x.op, .int .i64 x.l.op, .string x.l.t.x, .int .i64 x.l.t.v.k, .int .i64 x.l.t.v.n, .string x.l.t.v.s, .slice P pn pc, .int .i64 x.r.op, .string x.r.t.x, .int .i64 x.r.t.v.k, .int .i64 x.r.t.v.n, .string x.r.t.v.s, .slice Q qn qc, .int .i64 x.pos] 51)) W → RLitRow W w.heap.size x A n c P pn pc Q qn qc) := fun W hb => (hb.block _ (Array.getElem?_eq_some_iff.1 hrb).1).trans hrb
  have HAl := Lib.hid (fun (W : World) (hb : Below w.heap.size w W) => refAlone_any x.l P pn pc B bn bc l W h.lx (hl.keep hb))
  have HAr := Lib.hid (fun (W : World) (hb : Below w.heap.size w W) => refAlone_any x.r Q qn qc B bn bc l W h.rx (hl.keep hb))
  obtain ⟨f0, f1, f2, f3, f4, f5, f6, f7, f8, f9, f10, f11, f12, f13, f14, f15, f16⟩ := (HF.out _ (Below.refl _ _)).facts
  obtain ⟨K, HK⟩ : ∃ K : Ending → World → Prop, Hid (K = RSolveP (getT l) (solveS (getT l) x.op x.l x.r) w) := ⟨_, rfl⟩
  rw [← HK.out]
  have q0 : (x.op == 1) = true := by simp [hq]
  have hS : solveS (getT l) x.op x.l x.r = setS (getT l) x.l.t.x x.r := by unfold solveS; rw [if_pos ⟨hq, ha⟩]
  have HE := Lib.hid (fun (W : World) (hb : Below w.heap.size w W) => refEval_any B bn bc l 20 x.r Q qn qc d W hR (h.keep hb).rk h.rv (hl.keep hb))
  unfold TermErr errI at HE
  have hnone : getT l x.l.t.x = none := (aloneS_val ha).2.2
  have hok := rightB_ok (evalS_ok he)
  have HSe := Lib.hid (fun (W : World) (hb : Below w.heap.size w W) => set_any B bn bc l x.l.t.x (evalS (getT l) 20 x.r).1 W (hl.keep hb) hn h.lx hok (told_ok hl))
  unfold SetPost at HSe
  have HG : Hid (∀ w' A2 n2 c2, Below w.heap.size w w' → SliceIs Enc.told w' w'.heap.size A2 n2 c2 (l ++ [⟨x.l.t.x, (evalS (getT l) 20 x.r).1⟩]) → K (.returned (.tuple #[.slice A2 n2 c2, .bool true, .int .i64 0])) w') := fun w' A2 n2 c2 hb hs => by rw [HK.out, hS, setS, if_neg (by simpa using he)]; exact ⟨hb, .inl ⟨rfl, rfl, A2, n2, c2, _, rfl, hs, getT_snoc hnone⟩⟩
  rw [he] at HE
  clear hnone hok
  generalize evalS (getT l) 20 x.r = p at *
  obtain ⟨v, te⟩ := p
  dsimp only at HE HG HSe
  rw [ha] at HAl
  clear hba hrb HK hS he hq h hl hL hR ha
  generalize hwb : (w.alloc (.cells #[.int .i64 x.k, .string x.atom.rel, .slice A n c, .int .i64 x.op, .int .i64 x.l.op, .string x.l.t.x, .int .i64 x.l.t.v.k, .int .i64 x.l.t.v.n, .string x.l.t.v.s, .slice P pn pc, .int .i64 x.r.op, .string x.r.t.x, .int .i64 x.r.t.v.k, .int .i64 x.r.t.v.n, .string x.r.t.v.s, .slice Q qn qc, .int .i64 x.pos] 51)) = wb at *
  have HB0 := Lib.hid (Below.refl wb.heap.size wb)
  go_enter Tryz.func27, Tryz.ntmps27
  go_wp2_with fail
  try simp only [hwb]
  clear hwb
  generalize (.agg #[.int .i64 x.k, .string x.atom.rel, .slice A n c, .int .i64 x.op, .int .i64 x.l.op, .string x.l.t.x, .int .i64 x.l.t.v.k, .int .i64 x.l.t.v.n, .string x.l.t.v.s, .slice P pn pc, .int .i64 x.r.op, .string x.r.t.x, .int .i64 x.r.t.v.k, .int .i64 x.r.t.v.n, .string x.r.t.v.s, .slice Q qn qc, .int .i64 x.pos] : Value) = LV0
  go_wp2_with fail
  refine (HAl.out _ (below_next HB.out HB0.out)).mono ?_
  rintro e w1 ⟨rfl, hb1⟩
  have HB1 := Lib.hid (below_next HB0.out hb1)
  obtain ⟨g0, g1, g2, g3, g4, g5, g6, g7, g8, g9, g10, g11, g12, g13, g14, g15, g16⟩ := (HF.out _ HB1.out).facts
  clear hb1 f0 f1 f2 f3 f4 f5 f6 f7 f8 f9 f10 f11 f12 f13 f14 f15 f16
  go_wp2_with fail
  have Hk : Hid (∀ W, Below w1.heap.size w1 W → W.cell? ⟨w.heap.size, 0, none⟩ = some (.int .i64 x.k) ∧ W.cell? ⟨w.heap.size, 1, none⟩ = some (.string x.atom.rel) ∧ W.cell? ⟨w.heap.size, 2, none⟩ = some (.slice A n c) ∧ W.cell? ⟨w.heap.size, 3, none⟩ = some (.int .i64 x.op) ∧ W.cell? ⟨w.heap.size, 4, none⟩ = some (.int .i64 x.l.op) ∧ W.cell? ⟨w.heap.size, 5, none⟩ = some (.string x.l.t.x) ∧ W.cell? ⟨w.heap.size, 6, none⟩ = some (.int .i64 x.l.t.v.k) ∧ W.cell? ⟨w.heap.size, 7, none⟩ = some (.int .i64 x.l.t.v.n) ∧ W.cell? ⟨w.heap.size, 8, none⟩ = some (.string x.l.t.v.s) ∧ W.cell? ⟨w.heap.size, 9, none⟩ = some (.slice P pn pc) ∧ W.cell? ⟨w.heap.size, 10, none⟩ = some (.int .i64 x.r.op) ∧ W.cell? ⟨w.heap.size, 11, none⟩ = some (.string x.r.t.x) ∧ W.cell? ⟨w.heap.size, 12, none⟩ = some (.int .i64 x.r.t.v.k) ∧ W.cell? ⟨w.heap.size, 13, none⟩ = some (.int .i64 x.r.t.v.n) ∧ W.cell? ⟨w.heap.size, 14, none⟩ = some (.string x.r.t.v.s) ∧ W.cell? ⟨w.heap.size, 15, none⟩ = some (.slice Q qn qc) ∧ W.cell? ⟨w.heap.size, 16, none⟩ = some (.int .i64 x.pos)) := fun W h => (HF.out _ (below_next HB1.out h)).facts
  have hq1 := Below.refl w1.heap.size w1
  go_region_held3 (fun W => W.cell? ⟨w.heap.size, 0, none⟩ = some (.int .i64 x.k) ∧ W.cell? ⟨w.heap.size, 1, none⟩ = some (.string x.atom.rel) ∧ W.cell? ⟨w.heap.size, 2, none⟩ = some (.slice A n c) ∧ W.cell? ⟨w.heap.size, 3, none⟩ = some (.int .i64 x.op) ∧ W.cell? ⟨w.heap.size, 4, none⟩ = some (.int .i64 x.l.op) ∧ W.cell? ⟨w.heap.size, 5, none⟩ = some (.string x.l.t.x) ∧ W.cell? ⟨w.heap.size, 6, none⟩ = some (.int .i64 x.l.t.v.k) ∧ W.cell? ⟨w.heap.size, 7, none⟩ = some (.int .i64 x.l.t.v.n) ∧ W.cell? ⟨w.heap.size, 8, none⟩ = some (.string x.l.t.v.s) ∧ W.cell? ⟨w.heap.size, 9, none⟩ = some (.slice P pn pc) ∧ W.cell? ⟨w.heap.size, 10, none⟩ = some (.int .i64 x.r.op) ∧ W.cell? ⟨w.heap.size, 11, none⟩ = some (.string x.r.t.x) ∧ W.cell? ⟨w.heap.size, 12, none⟩ = some (.int .i64 x.r.t.v.k) ∧ W.cell? ⟨w.heap.size, 13, none⟩ = some (.int .i64 x.r.t.v.n) ∧ W.cell? ⟨w.heap.size, 14, none⟩ = some (.string x.r.t.v.s) ∧ W.cell? ⟨w.heap.size, 15, none⟩ = some (.slice Q qn qc) ∧ W.cell? ⟨w.heap.size, 16, none⟩ = some (.int .i64 x.pos))
    (first
      | (refine Hk.out _ ?_; (repeat (first | with_reducible exact Below.refl _ _ | with_reducible assumption | with_reducible refine Below.drew ?_ | with_reducible refine belowA ?_ _ | with_reducible refine Below.setCell ?_ (Nat.le_refl _) _)); done)
      | go_keep)
    (fail)
  have hb3 : Below wb.heap.size wb (w1.alloc (.cells #[.int .i64 x.r.op, .string x.r.t.x, .int .i64 x.r.t.v.k, .int .i64 x.r.t.v.n, .string x.r.t.v.s, .slice Q qn qc] 49)).drew := below_next HB1.out ((belowA hq1 _).drew)
  have hrw : (w1.alloc (.cells #[.int .i64 x.r.op, .string x.r.t.x, .int .i64 x.r.t.v.k, .int .i64 x.r.t.v.n, .string x.r.t.v.s, .slice Q qn qc] 49)).drew.heap[w1.heap.size]? = some (.cells #[.int .i64 x.r.op, .string x.r.t.x, .int .i64 x.r.t.v.k, .int .i64 x.r.t.v.n, .string x.r.t.v.s, .slice Q qn qc] 49 (0, 0)) := heapNew2 rfl
  generalize (w1.alloc (.cells #[.int .i64 x.r.op, .string x.r.t.x, .int .i64 x.r.t.v.k, .int .i64 x.r.t.v.n, .string x.r.t.v.s, .slice Q qn qc] 49)).drew = w3 at *
  have HB3 := Lib.hid hb3
  obtain ⟨s0, s1, s2, s3, s4, s5, s6, s7, s8, s9, s10, s11, s12, s13, s14, s15, s16⟩ := (HF.out _ hb3).facts
  clear g0 g1 g2 g3 g4 g5 g6 g7 g8 g9 g10 g11 g12 g13 g14 g15 g16 hq1 hb3 Hk
  have Hrw := Lib.hid hrw
  clear hrw
  go_wp2_with fail
  refine (HAl.out _ (below_next HB.out HB3.out)).mono ?_
  rintro e w4 ⟨rfl, hb4⟩
  have hrw4 := (hb4.block _ (Array.getElem?_eq_some_iff.1 Hrw.out).1).trans Hrw.out
  have HB4 := Lib.hid (below_next HB3.out hb4)
  obtain ⟨f0, f1, f2, f3, f4, f5, f6, f7, f8, f9, f10, f11, f12, f13, f14, f15, f16⟩ := (HF.out _ HB4.out).facts
  obtain ⟨y0, y1, y2, y3, y4, y5⟩ := facts6 hrw4
  obtain ⟨z0, z1, z2, z3, z4, z5⟩ := frz6 hrw4
  clear s0 s1 s2 s3 s4 s5 s6 s7 s8 s9 s10 s11 s12 s13 s14 s15 s16 hb4
  go_wp2_with fail
  refine (HE.out _ (below_next HB.out HB4.out)).mono ?_
  rintro e w6 ⟨rfl, hb6⟩
  have HB6 := Lib.hid (belowA (below_next HB4.out hb6) (.cells #[.int .i64 v.k, .int .i64 v.n, .string v.s] 28))
  clear hb6
  go_wp2_with fail
  refine (HSe.out _ (below_next HB.out HB6.out)).mono ?_
  rintro e w7 ⟨A2, c2, rfl, hs7, hb7⟩
  have HB7 := Lib.hid (below_next (below_next HB.out HB6.out) hb7)
  have Hs7 := Lib.hid hs7
  clear hb7 hs7
  go_wp2_with fail
  exact bodyPost_ret (v := .tuple #[.slice A2 (bn + 1) c2, .bool true, .int .i64 0]) (by simp [results, Tryz.results27, go_sem]) rfl (HG.out _ _ _ _ HB7.out Hs7.out)
end Go.Proofs.YtgabkmibfhmkmaaGreatDoor
