/- My own texts ArSvY, ArSolves, ArOpen, LiftArSv, FactsArSv, as far as this claim needs them. -/
import Derived.Test.YtgabkmibfhmkmaaGreatDoorZe6
import Derived.Test.YtgabkmibfhmkmaaGreatDoorZe16
import Derived.Test.YtgabkmibfhmkmaaGreatDoorZe27
import Derived.Test.YtgabkmibfhmkmaaGreatDoorZe35
import Derived.Test.YtgabkmibfhmkmaaGreatDoorZe42
import Derived.Test.YtgabkmibfhmkmaaGreatDoorZe43
import Derived.Test.YtgabkmibfhmkmaaGreatDoorRows
import Derived.JoinedOf
set_option linter.unusedVariables false
set_option linter.unusedSimpArgs false
namespace Go.Proofs.YtgabkmibfhmkmaaGreatDoor
open Go.RowKit
set_option linter.unusedVariables false
set_option maxRecDepth 100000 in
set_option maxHeartbeats 8000000 in
theorem arithSolves_y (d : Nat) (x : GLit) (A : Option Addr) (n c : Nat) (P : Option Addr) (pn pc : Nat) (Q : Option Addr) (qn qc : Nat) (B : Option Addr) (bn bc : Nat) (l : List GTold) (w : World) (h : LitAt d w w.heap.size x ⟨A, n, c⟩ ⟨P, pn, pc⟩ ⟨Q, qn, qc⟩) (hl : SliceIs Enc.told w w.heap.size B bn bc l) (hW : ParW w) (hc : cmpB3 x = true) (hs : (solveS (getT l) x.op x.l x.r).2.1 = true) :
    Calls Tryz.prog 3 #[.agg #[.int .i64 x.k, .string x.atom.rel, .slice A n c, .int .i64 x.op, .int .i64 x.l.op, .string x.l.t.x, .int .i64 x.l.t.v.k, .int .i64 x.l.t.v.n, .string x.l.t.v.s, .slice P pn pc, .int .i64 x.r.op, .string x.r.t.x, .int .i64 x.r.t.v.k, .int .i64 x.r.t.v.n, .string x.r.t.v.s, .slice Q qn qc, .int .i64 x.pos], .slice B bn bc] w (RetBool true w) := by
  have hba : Below w.heap.size w (w.alloc (.cells #[.int .i64 x.k, .string x.atom.rel, .slice A n c, .int .i64 x.op, .int .i64 x.l.op, .string x.l.t.x, .int .i64 x.l.t.v.k, .int .i64 x.l.t.v.n, .string x.l.t.v.s, .slice P pn pc, .int .i64 x.r.op, .string x.r.t.x, .int .i64 x.r.t.v.k, .int .i64 x.r.t.v.n, .string x.r.t.v.s, .slice Q qn qc, .int .i64 x.pos] 35)) := belowA (Below.refl _ _) _
  have hr1 : (w.alloc (.cells #[.int .i64 x.k, .string x.atom.rel, .slice A n c, .int .i64 x.op, .int .i64 x.l.op, .string x.l.t.x, .int .i64 x.l.t.v.k, .int .i64 x.l.t.v.n, .string x.l.t.v.s, .slice P pn pc, .int .i64 x.r.op, .string x.r.t.x, .int .i64 x.r.t.v.k, .int .i64 x.r.t.v.n, .string x.r.t.v.s, .slice Q qn qc, .int .i64 x.pos] 35)).heap[w.heap.size]? = some (.cells #[.int .i64 x.k, .string x.atom.rel, .slice A n c, .int .i64 x.op, .int .i64 x.l.op, .string x.l.t.x, .int .i64 x.l.t.v.k, .int .i64 x.l.t.v.n, .string x.l.t.v.s, .slice P pn pc, .int .i64 x.r.op, .string x.r.t.x, .int .i64 x.r.t.v.k, .int .i64 x.r.t.v.n, .string x.r.t.v.s, .slice Q qn qc, .int .i64 x.pos] 35 (0, 0)) := heapNew rfl
  have HA := Lib.hid (alive13_any _ (hW.on hba))
  have HF : Hid (∀ W, Below (w.alloc (.cells #[.int .i64 x.k, .string x.atom.rel, .slice A n c, .int .i64 x.op, .int .i64 x.l.op, .string x.l.t.x, .int .i64 x.l.t.v.k, .int .i64 x.l.t.v.n, .string x.l.t.v.s, .slice P pn pc, .int .i64 x.r.op, .string x.r.t.x, .int .i64 x.r.t.v.k, .int .i64 x.r.t.v.n, .string x.r.t.v.s, .slice Q qn qc, .int .i64 x.pos] 35)).heap.size (w.alloc (.cells #[.int .i64 x.k, .string x.atom.rel, .slice A n c, .int .i64 x.op, .int .i64 x.l.op, .string x.l.t.x, .int .i64 x.l.t.v.k, .int .i64 x.l.t.v.n, .string x.l.t.v.s, .slice P pn pc, .int .i64 x.r.op, .string x.r.t.x, .int .i64 x.r.t.v.k, .int .i64 x.r.t.v.n, .string x.r.t.v.s, .slice Q qn qc, .int .i64 x.pos] 35)) W → LitRow W w.heap.size x A n c P pn pc Q qn qc) := fun W h => (h.block _ (Array.getElem?_eq_some_iff.1 hr1).1).trans hr1
  have HB := Lib.hid hba
  have HL := Lib.hid hl
  have HX := Lib.hid (fun (W : World) (hb : Below w.heap.size w W) => h.keep hb)
  have HS := Lib.hid (fun (W : World) (hb : Below w.heap.size w W) => szRule_any d (ruleL x) ⟨none, 0, 0⟩ ⟨some ⟨W.heap.size, 0, none⟩, 1, 1⟩ 400 (W.alloc (.cells #[.int .i64 x.k, .string x.atom.rel, .slice A n c, .int .i64 x.op, .int .i64 x.l.op, .string x.l.t.x, .int .i64 x.l.t.v.k, .int .i64 x.l.t.v.n, .string x.l.t.v.s, .slice P pn pc, .int .i64 x.r.op, .string x.r.t.x, .int .i64 x.r.t.v.k, .int .i64 x.r.t.v.n, .string x.r.t.v.s, .slice Q qn qc, .int .i64 x.pos] 35)) (ruleL_at (heapNew rfl) (h.keep (belowA hb _))) (by decide) (by decide))
  have HG := Lib.hid (fun (W : World) (hb : Below w.heap.size w W) => long13_any B bn bc l W (hl.keep hb))
  have HSm : Hid (0 ≤ szR (ruleL x) 400 → SmLit x) := fun h => (szR_all h (by decide)).1.lits x (by simp [ruleL])
  have HSo : Hid (∀ (m : Value) (W : World) (hb : Below w.heap.size w W) (hm : EnvIs W m (getT l)), Calls Tryz.prog 21 #[litV x A n c P pn pc Q qn qc, m] W (SolveP (getT l) (solveT (getT l) x) W)) := (fun (m : Value) (W : World) (hb : Below w.heap.size w W) (hm : EnvIs W m (getT l)) => asolve_any d x A n c P pn pc Q qn qc m (getT l) W (h.keep hb) hm (hW.lex.on hb))
  have HTe : Hid (∀ (m : Value) (W : World) (hb : Below w.heap.size w W) (hm : EnvIs W m (getT l)), Calls Tryz.prog 20 #[litV x A n c P pn pc Q qn qc, m] W (RetBE (testT (getT l) x) (errV 66) W)) := (fun (m : Value) (W : World) (hb : Below w.heap.size w W) (hm : EnvIs W m (getT l)) => atest_any d x A n c P pn pc Q qn qc m (getT l) W (h.keep hb) hm (hW.lex.on hb))
  unfold RetBE at HTe
  obtain ⟨hcl, hcr⟩ := cmpB3_parts hc
  have e1 : testT (getT l) x = testS (getT l) x.op x.l x.r := by unfold testT; rw [if_pos hc]
  have e2 : solveT (getT l) x = solveS (getT l) x.op x.l x.r := by unfold solveT; rw [if_pos hc]
  rw [e1] at HTe
  rw [e2] at HSo
  clear e1 e2
  have HRT : Hid (∀ (A2 : Option Addr) (n2 c2 : Nat) (P2 : Option Addr) (p2 r2 : Nat) (Q2 : Option Addr) (q2 s2 : Nat) (W : World), LitAt d W W.heap.size x ⟨A2, n2, c2⟩ ⟨P2, p2, r2⟩ ⟨Q2, q2, s2⟩ → SliceIs Enc.told W W.heap.size B bn bc l → Calls Tryz.prog 26 #[(.agg #[.int .i64 x.k, .string x.atom.rel, .slice A2 n2 c2, .int .i64 x.op, .int .i64 x.l.op, .string x.l.t.x, .int .i64 x.l.t.v.k, .int .i64 x.l.t.v.n, .string x.l.t.v.s, .slice P2 p2 r2, .int .i64 x.r.op, .string x.r.t.x, .int .i64 x.r.t.v.k, .int .i64 x.r.t.v.n, .string x.r.t.v.s, .slice Q2 q2 s2, .int .i64 x.pos] : Value), .slice B bn bc] W (RetBE (testS (getT l) x.op x.l x.r) errI W)) := fun A2 n2 c2 P2 p2 r2 Q2 q2 s2 W h1 h2 => refTest_any d x A2 n2 c2 P2 p2 r2 Q2 q2 s2 B bn bc l W h1 h2 hcl hcr
  have HRS : Hid (∀ (A2 : Option Addr) (n2 c2 : Nat) (P2 : Option Addr) (p2 r2 : Nat) (Q2 : Option Addr) (q2 s2 : Nat) (W : World), LitAt d W W.heap.size x ⟨A2, n2, c2⟩ ⟨P2, p2, r2⟩ ⟨Q2, q2, s2⟩ → SliceIs Enc.told W W.heap.size B bn bc l → bn ≤ 1000000 → Calls Tryz.prog 27 #[(.agg #[.int .i64 x.k, .string x.atom.rel, .slice A2 n2 c2, .int .i64 x.op, .int .i64 x.l.op, .string x.l.t.x, .int .i64 x.l.t.v.k, .int .i64 x.l.t.v.n, .string x.l.t.v.s, .slice P2 p2 r2, .int .i64 x.r.op, .string x.r.t.x, .int .i64 x.r.t.v.k, .int .i64 x.r.t.v.n, .string x.r.t.v.s, .slice Q2 q2 s2, .int .i64 x.pos] : Value), .slice B bn bc] W (RSolveP (getT l) (solveS (getT l) x.op x.l x.r) W)) := fun A2 n2 c2 P2 p2 r2 Q2 q2 s2 W h1 h2 h3 => refSolve_any d x A2 n2 c2 P2 p2 r2 Q2 q2 s2 B bn bc l W h1 h2 h3 hcl hcr
  unfold RetBE at HRT
  generalize testS (getT l) x.op x.l x.r = qt at *
  generalize solveS (getT l) x.op x.l x.r = qs at *
  obtain ⟨qa, qk⟩ := qt
  obtain ⟨qo, qb, qe⟩ := qs
  dsimp only at HTe HRT hs
  subst hs
  have Hc := Lib.hid hc
  clear hc hcl hcr
  have HNm := Lib.hid (fun n W => num_any n W)
  clear hba hr1 hW h
  generalize hwb : (w.alloc (.cells #[.int .i64 x.k, .string x.atom.rel, .slice A n c, .int .i64 x.op, .int .i64 x.l.op, .string x.l.t.x, .int .i64 x.l.t.v.k, .int .i64 x.l.t.v.n, .string x.l.t.v.s, .slice P pn pc, .int .i64 x.r.op, .string x.r.t.x, .int .i64 x.r.t.v.k, .int .i64 x.r.t.v.n, .string x.r.t.v.s, .slice Q qn qc, .int .i64 x.pos] 35)) = wb at *
  generalize hszr : szR (ruleL x) 400 = R at *
  clear hszr
  go_enter Tryz.func3, Tryz.ntmps3
  go_wp2_with fail
  try simp only [hwb]
  clear hwb
  generalize (.agg #[.int .i64 x.k, .string x.atom.rel, .slice A n c, .int .i64 x.op, .int .i64 x.l.op, .string x.l.t.x, .int .i64 x.l.t.v.k, .int .i64 x.l.t.v.n, .string x.l.t.v.s, .slice P pn pc, .int .i64 x.r.op, .string x.r.t.x, .int .i64 x.r.t.v.k, .int .i64 x.r.t.v.n, .string x.r.t.v.s, .slice Q qn qc, .int .i64 x.pos] : Value) = LV0
  go_wp2_with fail
  refine HA.out.mono ?_
  rintro e w1 ⟨rfl, hb1⟩
  have HB1 := Lib.hid hb1
  obtain ⟨f0, f1, f2, f3, f4, f5, f6, f7, f8, f9, f10, f11, f12, f13, f14, f15, f16⟩ := (HF.out _ hb1).facts
  clear hb1 HA
  go_wp2_with fail
  refine (HS.out w1 (below_next HB.out HB1.out)).mono ?_
  rintro e w2 ⟨rfl, hb2⟩
  have HB2 := Lib.hid (below_next (belowA HB1.out (.cells #[.int .i64 x.k, .string x.atom.rel, .slice A n c, .int .i64 x.op, .int .i64 x.l.op, .string x.l.t.x, .int .i64 x.l.t.v.k, .int .i64 x.l.t.v.n, .string x.l.t.v.s, .slice P pn pc, .int .i64 x.r.op, .string x.r.t.x, .int .i64 x.r.t.v.k, .int .i64 x.r.t.v.n, .string x.r.t.v.s, .slice Q qn qc, .int .i64 x.pos] 35)) hb2)
  clear hb2 HS f0 f1 f2 f3 f4 f5 f6 f7 f8 f9 f10 f11 f12 f13 f14 f15 f16
  as_aux_lemma =>
  by_cases hR : R < 0
  · go_wp2_with fail
    go_ret
    exact ⟨rfl, below_next HB.out HB2.out⟩
  have HSm2 := Lib.hid (HSm.out (by omega))
  go_wp2_with fail
  refine (HG.out _ (below_next HB.out HB2.out)).mono ?_
  rintro e w3 ⟨r, rfl, hn31, hb3⟩
  have HB4 := Lib.hid (below_next HB2.out hb3)
  clear hb3 HG HSm
  cases r with
  | true =>
    go_wp2_with fail
    go_ret
    exact ⟨rfl, below_next HB.out HB4.out⟩
  | false =>
  have Hn := Lib.hid (Nat.le_trans (hn31 rfl) (by decide : 31 ≤ 1000000))
  obtain ⟨f0, f1, f2, f3, f4, f5, f6, f7, f8, f9, f10, f11, f12, f13, f14, f15, f16⟩ := (HF.out _ HB4.out).facts
  clear HB2 hn31 HB1
  as_aux_lemma =>
  go_wp2_with fail
  refine (copyLit_any d x ⟨A, n, c⟩ ⟨P, pn, pc⟩ ⟨Q, qn, qc⟩ w3 (HX.out _ (below_next HB.out HB4.out)) HSm2.out).mono ?_
  rintro e w5 ⟨⟨A2, n2, c2⟩, ⟨P2, p2, r2⟩, ⟨Q2, q2, s2⟩, rfl, h5, hb5⟩
  have hq5 : Below wb.heap.size wb (w5.alloc (.cells #[.int .i64 x.k, .string x.atom.rel, .slice A2 n2 c2, .int .i64 x.op, .int .i64 x.l.op, .string x.l.t.x, .int .i64 x.l.t.v.k, .int .i64 x.l.t.v.n, .string x.l.t.v.s, .slice P2 p2 r2, .int .i64 x.r.op, .string x.r.t.x, .int .i64 x.r.t.v.k, .int .i64 x.r.t.v.n, .string x.r.t.v.s, .slice Q2 q2 s2, .int .i64 x.pos] 51)) := belowA (below_next HB4.out hb5) _
  have hr5 : (w5.alloc (.cells #[.int .i64 x.k, .string x.atom.rel, .slice A2 n2 c2, .int .i64 x.op, .int .i64 x.l.op, .string x.l.t.x, .int .i64 x.l.t.v.k, .int .i64 x.l.t.v.n, .string x.l.t.v.s, .slice P2 p2 r2, .int .i64 x.r.op, .string x.r.t.x, .int .i64 x.r.t.v.k, .int .i64 x.r.t.v.n, .string x.r.t.v.s, .slice Q2 q2 s2, .int .i64 x.pos] 51)).heap[w5.heap.size]? = some (.cells #[.int .i64 x.k, .string x.atom.rel, .slice A2 n2 c2, .int .i64 x.op, .int .i64 x.l.op, .string x.l.t.x, .int .i64 x.l.t.v.k, .int .i64 x.l.t.v.n, .string x.l.t.v.s, .slice P2 p2 r2, .int .i64 x.r.op, .string x.r.t.x, .int .i64 x.r.t.v.k, .int .i64 x.r.t.v.n, .string x.r.t.v.s, .slice Q2 q2 s2, .int .i64 x.pos] 51 (0, 0)) := heapNew rfl
  have h6 : LitAt d (w5.alloc (.cells #[.int .i64 x.k, .string x.atom.rel, .slice A2 n2 c2, .int .i64 x.op, .int .i64 x.l.op, .string x.l.t.x, .int .i64 x.l.t.v.k, .int .i64 x.l.t.v.n, .string x.l.t.v.s, .slice P2 p2 r2, .int .i64 x.r.op, .string x.r.t.x, .int .i64 x.r.t.v.k, .int .i64 x.r.t.v.n, .string x.r.t.v.s, .slice Q2 q2 s2, .int .i64 x.pos] 51)) (w5.alloc (.cells #[.int .i64 x.k, .string x.atom.rel, .slice A2 n2 c2, .int .i64 x.op, .int .i64 x.l.op, .string x.l.t.x, .int .i64 x.l.t.v.k, .int .i64 x.l.t.v.n, .string x.l.t.v.s, .slice P2 p2 r2, .int .i64 x.r.op, .string x.r.t.x, .int .i64 x.r.t.v.k, .int .i64 x.r.t.v.n, .string x.r.t.v.s, .slice Q2 q2 s2, .int .i64 x.pos] 51)).heap.size x ⟨A2, n2, c2⟩ ⟨P2, p2, r2⟩ ⟨Q2, q2, s2⟩ := (LitAt.mono' h5 (Nat.le_refl _) (kept_up _ _ _)).keep (belowA (Below.refl _ _) _)
  generalize hw6 : w5.alloc (.cells #[.int .i64 x.k, .string x.atom.rel, .slice A2 n2 c2, .int .i64 x.op, .int .i64 x.l.op, .string x.l.t.x, .int .i64 x.l.t.v.k, .int .i64 x.l.t.v.n, .string x.l.t.v.s, .slice P2 p2 r2, .int .i64 x.r.op, .string x.r.t.x, .int .i64 x.r.t.v.k, .int .i64 x.r.t.v.n, .string x.r.t.v.s, .slice Q2 q2 s2, .int .i64 x.pos] 51) = w6 at *
  have HF2 : Hid (∀ W, Below w6.heap.size w6 W → RLitRow W w5.heap.size x A2 n2 c2 P2 p2 r2 Q2 q2 s2) := fun W h => (h.block _ (Array.getElem?_eq_some_iff.1 hr5).1).trans hr5
  have HX2 := Lib.hid (fun (W : World) (hb : Below w6.heap.size w6 W) => h6.keep hb)
  have HB6 := Lib.hid hq5
  clear f0 f1 f2 f3 f4 f5 f6 f7 f8 f9 f10 f11 f12 f13 f14 f15 f16 hb5 hq5 hr5 h5 h6 HSm2 HX
  as_aux_lemma =>
  go_wp2_with fail
  try simp only [hw6]
  clear hw6
  generalize (.agg #[.int .i64 x.k, .string x.atom.rel, .slice A2 n2 c2, .int .i64 x.op, .int .i64 x.l.op, .string x.l.t.x, .int .i64 x.l.t.v.k, .int .i64 x.l.t.v.n, .string x.l.t.v.s, .slice P2 p2 r2, .int .i64 x.r.op, .string x.r.t.x, .int .i64 x.r.t.v.k, .int .i64 x.r.t.v.n, .string x.r.t.v.s, .slice Q2 q2 s2, .int .i64 x.pos] : Value) = LV2
  generalize w5.heap.size = b2 at *
  refine (env_any B bn bc l w6 (HL.out.keep (below_next HB.out HB6.out))).mono ?_
  rintro e w7 ⟨g, rfl, hg, hgs, hb7⟩
  have HB7 := Lib.hid (below_next HB6.out hb7)
  have HC7 := Lib.hid hb7
  have HM : Hid (∀ W, Below w7.heap.size w7 W → MapV W (.map (some g)) (envOf l)) := fun W h => (show MapV w7 (.map (some g)) (envOf l) from .inr ⟨g, rfl, hg⟩).below h
  have HE : Hid (∀ W, Below w7.heap.size w7 W → EnvIs W (.map (some g)) (getT l)) := fun W h => ⟨envOf l, HM.out W h, envOf_keys l, fun s => envOf_get l s⟩
  have HQ7 := Lib.hid (Below.refl w7.heap.size w7)
  obtain ⟨f0, f1, f2, f3, f4, f5, f6, f7, f8, f9, f10, f11, f12, f13, f14, f15, f16⟩ := (HF.out _ HB7.out).facts
  clear hb7 hg hgs
  as_aux_lemma =>
  go_wp2_with fail
  refine (HTe.out _ _ (below_next HB.out HB7.out) (HE.out _ HQ7.out)).mono ?_
  rintro e w8 ⟨rfl, hb8⟩
  have HB8 := Lib.hid (below_next HB7.out hb8)
  have HQ8 := Lib.hid (below_next HQ7.out hb8)
  obtain ⟨g0, g1, g2, g3, g4, g5, g6, g7, g8, g9, g10, g11, g12, g13, g14, g15, g16⟩ := (HF.out _ HB8.out).facts
  clear hb8 f0 f1 f2 f3 f4 f5 f6 f7 f8 f9 f10 f11 f12 f13 f14 f15 f16 HTe
  generalize (.agg #[.int .i64 x.k, .string x.atom.rel, .slice A n c, .int .i64 x.op, .int .i64 x.l.op, .string x.l.t.x, .int .i64 x.l.t.v.k, .int .i64 x.l.t.v.n, .string x.l.t.v.s, .slice P pn pc, .int .i64 x.r.op, .string x.r.t.x, .int .i64 x.r.t.v.k, .int .i64 x.r.t.v.n, .string x.r.t.v.s, .slice Q qn qc, .int .i64 x.pos] : Value) = LV3
  as_aux_lemma =>
  go_wp2_with fail
  refine (HSo.out _ _ (below_next HB.out HB8.out) (HE.out _ HQ8.out)).mono ?_
  rintro e w9 ⟨hb9, ⟨_, he9, gM, lc3, rfl, hm3, hn3, hg3⟩ | ⟨h9, _⟩⟩
  rotate_left
  · cases h9
  clear he9
  have HM3 : Hid (∀ W, Below w9.heap.size w9 W → MapV W (.map (some gM)) lc3) := fun W hb => (show MapV w9 (.map (some gM)) lc3 from .inr ⟨gM, rfl, hm3⟩).below hb
  have HN3 := Lib.hid hn3
  have HG3 := Lib.hid hg3
  have HK9 := Lib.hid (Below.refl w9.heap.size w9)
  have HN0 := Lib.hid (fun W => num_any 0 W)
  have ev0 : errV 66 0 = .nilIface := rfl
  rw [ev0] at HN0
  clear ev0 hm3 hn3 hg3
  have HB9 := Lib.hid (below_next HB8.out hb9)
  have HQ9 := Lib.hid (below_next HQ8.out hb9)
  clear hb9 g0 g1 g2 g3 g4 g5 g6 g7 g8 g9 g10 g11 g12 g13 g14 g15 g16 HSo
  generalize (.agg #[.int .i64 x.k, .string x.atom.rel, .slice A n c, .int .i64 x.op, .int .i64 x.l.op, .string x.l.t.x, .int .i64 x.l.t.v.k, .int .i64 x.l.t.v.n, .string x.l.t.v.s, .slice P pn pc, .int .i64 x.r.op, .string x.r.t.x, .int .i64 x.r.t.v.k, .int .i64 x.r.t.v.n, .string x.r.t.v.s, .slice Q qn qc, .int .i64 x.pos] : Value) = LV4
  as_aux_lemma =>
  go_wp2_with fail
  refine (same13_any (.map (some g)) (envOf l) B bn bc l w9 (HM.out _ HQ9.out) (envOf_keys l) (HL.out.keep (below_next HB.out HB9.out)) (fun s => envOf_get l s)).mono ?_
  rintro e w10 ⟨rfl, hb10⟩
  have HB10 := Lib.hid (below_next HB9.out hb10)
  have HQ10 := Lib.hid (below_next HQ9.out hb10)
  have HK10 := Lib.hid (below_next HK9.out hb10)
  clear hb10
  go_wp2_with fail
  refine (copy_any (.map (some g)) (getT l) w10 (HE.out _ HQ10.out)).mono ?_
  rintro e w11 ⟨g2, lc, rfl, hg2, hmc, hnc, hgc, hb11⟩
  have HB11 := Lib.hid (below_next HB10.out hb11)
  have HQ11 := Lib.hid (below_next HQ10.out hb11)
  have HK11 := Lib.hid (below_next HK10.out hb11)
  have HMc := Lib.hid hmc
  have HNc := Lib.hid hnc
  have HGc := Lib.hid hgc
  clear hb11 hmc hnc hgc hg2
  as_aux_lemma =>
  go_wp2_with fail
  refine (same13_any (.map (some g2)) lc B bn bc l w11 (.inr ⟨g2, rfl, HMc.out⟩) HNc.out (HL.out.keep (below_next HB.out HB11.out)) HGc.out).mono ?_
  rintro e w12 ⟨rfl, hb12⟩
  have HB12 := Lib.hid (below_next HB11.out hb12)
  have HC12 := Lib.hid (below_next HC7.out (below_next HQ11.out hb12))
  have HK12 := Lib.hid (below_next HK11.out hb12)
  obtain ⟨f0, f1, f2, f3, f4, f5, f6, f7, f8, f9, f10, f11, f12, f13, f14, f15, f16⟩ := (HF2.out _ HC12.out).facts
  clear hb12 HMc HNc HGc HQ7 HQ8 HQ9 HQ10 HQ11 HE HM HB8 HB9 HB10 HB11 HC7
  as_aux_lemma =>
  go_wp2_with fail
  refine (refRight13_any d x A2 n2 c2 P2 p2 r2 Q2 q2 s2 w12 (HX2.out _ HC12.out)).mono ?_
  rintro e w13 ⟨rfl, hb13⟩
  have HB13 := Lib.hid (below_next HB12.out hb13)
  have HC13 := Lib.hid (below_next HC12.out hb13)
  have HK13 := Lib.hid (below_next HK12.out hb13)
  clear f0 f1 f2 f3 f4 f5 f6 f7 f8 f9 f10 f11 f12 f13 f14 f15 f16 HB12 HC12
  generalize (.agg #[.int .i64 x.k, .string x.atom.rel, .slice A2 n2 c2, .int .i64 x.op, .int .i64 x.l.op, .string x.l.t.x, .int .i64 x.l.t.v.k, .int .i64 x.l.t.v.n, .string x.l.t.v.s, .slice P2 p2 r2, .int .i64 x.r.op, .string x.r.t.x, .int .i64 x.r.t.v.k, .int .i64 x.r.t.v.n, .string x.r.t.v.s, .slice Q2 q2 s2, .int .i64 x.pos] : Value) = LV5
  rw [Hc.out]
  obtain ⟨g0, g1, g2, g3, g4, g5, g6, g7, g8, g9, g10, g11, g12, g13, g14, g15, g16⟩ := (HF2.out _ HC13.out).facts
  clear hb13
  as_aux_lemma =>
  go_wp2_with fail
  refine (HRT.out A2 n2 c2 P2 p2 r2 Q2 q2 s2 w13 (HX2.out _ HC13.out) (HL.out.keep (below_next HB.out HB13.out))).mono ?_
  rintro e w14 ⟨rfl, hb14⟩
  have HB14 := Lib.hid (below_next HB13.out hb14)
  have HC14 := Lib.hid (below_next HC13.out hb14)
  have HK14 := Lib.hid (below_next HK13.out hb14)
  clear g0 g1 g2 g3 g4 g5 g6 g7 g8 g9 g10 g11 g12 g13 g14 g15 g16 hb14 HB13 HRT
  generalize (.agg #[.int .i64 x.k, .string x.atom.rel, .slice A2 n2 c2, .int .i64 x.op, .int .i64 x.l.op, .string x.l.t.x, .int .i64 x.l.t.v.k, .int .i64 x.l.t.v.n, .string x.l.t.v.s, .slice P2 p2 r2, .int .i64 x.r.op, .string x.r.t.x, .int .i64 x.r.t.v.k, .int .i64 x.r.t.v.n, .string x.r.t.v.s, .slice Q2 q2 s2, .int .i64 x.pos] : Value) = LV6
  obtain ⟨g0, g1, g2, g3, g4, g5, g6, g7, g8, g9, g10, g11, g12, g13, g14, g15, g16⟩ := (HF2.out _ HC14.out).facts
  as_aux_lemma =>
  go_wp2_with fail
  refine (HRS.out A2 n2 c2 P2 p2 r2 Q2 q2 s2 w14 (HX2.out _ HC14.out) (HL.out.keep (below_next HB.out HB14.out)) Hn.out).mono ?_
  rintro e w15 ⟨hb15, ⟨_, _, A5, n5, c5, l5, rfl, hs5, hg5⟩ | ⟨h9, _⟩⟩
  rotate_left
  · cases h9
  have HB15 := Lib.hid (below_next HB14.out hb15)
  have HK15 := Lib.hid (below_next HK14.out hb15)
  have HQ15 := Lib.hid (Below.refl w15.heap.size w15)
  have HS5 := Lib.hid hs5
  have HG5 := Lib.hid (fun s => (HG3.out s).trans (hg5 s).symm)
  clear hs5 hg5
  clear g0 g1 g2 g3 g4 g5 g6 g7 g8 g9 g10 g11 g12 g13 g14 g15 g16 hb15 HRS HB14
  generalize (.agg #[.int .i64 x.k, .string x.atom.rel, .slice A2 n2 c2, .int .i64 x.op, .int .i64 x.l.op, .string x.l.t.x, .int .i64 x.l.t.v.k, .int .i64 x.l.t.v.n, .string x.l.t.v.s, .slice P2 p2 r2, .int .i64 x.r.op, .string x.r.t.x, .int .i64 x.r.t.v.k, .int .i64 x.r.t.v.n, .string x.r.t.v.s, .slice Q2 q2 s2, .int .i64 x.pos] : Value) = LV7
  have q0 : (qa != qa) = false := by simp
  have q1 : (qk != qk) = false := by simp
  as_aux_lemma =>
  go_wp2_with fail
  refine (HNm.out qk _).mono ?_
  rintro e w16 ⟨rfl, hb16⟩
  have HB16 := Lib.hid (below_next HB15.out hb16)
  have HK16 := Lib.hid (below_next HK15.out hb16)
  have HQ16 := Lib.hid (below_next HQ15.out hb16)
  clear hb16
  go_wp2_with fail
  refine (HN0.out _).mono ?_
  rintro e w17 ⟨rfl, hb17⟩
  have HB17 := Lib.hid (below_next HB16.out hb17)
  have HK17 := Lib.hid (below_next HK16.out hb17)
  have HQ17 := Lib.hid (below_next HQ16.out hb17)
  clear hb17
  go_wp2_with fail
  refine (same13_any (.map (some gM)) lc3 A5 n5 c5 l5 w17 (HM3.out _ HK17.out) HN3.out (HS5.out.keep HQ17.out) HG5.out).mono ?_
  rintro e w18 ⟨rfl, hb18⟩
  have HB18 := Lib.hid (below_next HB17.out hb18)
  clear hb18
  go_wp2_with fail
  go_ret
  exact ⟨rfl, below_next HB.out HB18.out⟩
end Go.Proofs.YtgabkmibfhmkmaaGreatDoor

namespace Go.Proofs.YtgabkmibfhmkmaaGreatDoor
open Go.RowKit
theorem arithSolves_walk (d : Nat) (x : GLit) (A : Option Addr) (n c : Nat) (P : Option Addr) (pn pc : Nat) (Q : Option Addr) (qn qc : Nat) (B : Option Addr) (bn bc : Nat) (l : List GTold) (w : World) (h : LitAt d w w.heap.size x ⟨A, n, c⟩ ⟨P, pn, pc⟩ ⟨Q, qn, qc⟩) (hl : SliceIs Enc.told w w.heap.size B bn bc l) (hW : ParW w) :
    Calls Tryz.prog 3 #[.agg #[.int .i64 x.k, .string x.atom.rel, .slice A n c, .int .i64 x.op, .int .i64 x.l.op, .string x.l.t.x, .int .i64 x.l.t.v.k, .int .i64 x.l.t.v.n, .string x.l.t.v.s, .slice P pn pc, .int .i64 x.r.op, .string x.r.t.x, .int .i64 x.r.t.v.k, .int .i64 x.r.t.v.n, .string x.r.t.v.s, .slice Q qn qc, .int .i64 x.pos], .slice B bn bc] w (RetBool true w) := by
  cases hc : cmpB3 x with
  | false => exact arithSolves_f d x A n c P pn pc Q qn qc B bn bc l w h hl hW hc
  | true =>
    cases hs : (solveS (getT l) x.op x.l x.r).2.1 with
    | false => exact arithSolves_n d x A n c P pn pc Q qn qc B bn bc l w h hl hW hc hs
    | true => exact arithSolves_y d x A n c P pn pc Q qn qc B bn bc l w h hl hW hc hs
end Go.Proofs.YtgabkmibfhmkmaaGreatDoor

namespace Go.Proofs.YtgabkmibfhmkmaaGreatDoor
open Go.ChangeShapes Go.WideShapes Go.ChangeAt Go.RowKit
theorem u_litL : ∃ fs, Tryz.prog.underlying 35 = some (.struct fs) := ⟨_, Tryz.underlying35⟩
theorem o_told : Opens Tryz.prog 175 Enc.told := opens_told (a := 9) (b := 28) (by kernel_rfl) (by kernel_rfl) Tryz.underlying9 o_val2
theorem o_tolds : Opens Tryz.prog 36 (Enc.slice Enc.told) := opens_slice Tryz.underlying36 o_told (by kernel_rfl) (by show 0 < _; decide) (of_decide_eq_true (by kernel_rfl))
end Go.Proofs.YtgabkmibfhmkmaaGreatDoor

namespace Go.Proofs.YtgabkmibfhmkmaaGreatDoor
open Go.ChangeShapes Go.WideShapes Go.ChangeAt Go.RowKit
set_option linter.unusedVariables false
theorem params : Tryz.f3.params = #[35, 36] := by kernel_rfl
set_option maxRecDepth 100000 in
theorem lifted (os : Os) (started : os.Started) (H : Type) (enc : TypeId × Value → H) :
    ReturnsInHanded {} Tryz.checked os 3 .any (fun w args => (Rows.arithSolvesSpec.pre enc Tryz.prog Tryz.f3 Rows.arithSolvesRow.domain false w args ∧ laidMet Tryz.prog laidP w) ∧ sizedMet enc Tryz.prog Tryz.f3 (OpenSpec.ofChange Rows.arithSolvesSpec) false w args)
      (Rows.arithSolvesSpec.post enc Tryz.prog Tryz.f3 false true false false) := by
  refine returnsInHanded_of_change_and (C := Tryz.checked) (X := fun w _ => laidMet Tryz.prog laidP w) (fun _ _ _ hh h => h.of_heap hh) own started (by kernel_rfl) Tryz.func3
    (ChangeSpec.witness_at (enc := enc) (C := Tryz.checked) (os := os) (X := fun w _ => laidMet Tryz.prog laidP w) false (laidWorldP os) #[.agg #[.int .i64 0, .string ⟨#[]⟩, .slice none 0 0, .int .i64 0, .int .i64 0, .string ⟨#[]⟩, .int .i64 0, .int .i64 0, .string ⟨#[]⟩, .slice none 0 0, .int .i64 0, .string ⟨#[]⟩, .int .i64 0, .int .i64 0, .string ⟨#[]⟩, .slice none 0 0, .int .i64 0], .slice none 0 0] 8 rfl (by kernel_rfl) (by kernel_rfl) (by kernel_rfl) (by kernel_rfl) (by kernel_rfl) (laidWorldP_met os _)) ?_
  intro W base args ds gs before hval0 hW hcnd hsz0 hL _
  have hval : ∀ (j : Nat) t v, Tryz.f3.params[j]? = some t → args[j]? = some v → Value.okWide Tryz.prog W .any base t v := hval0
  have hW' := hW
  obtain ⟨p, q, hA0, hV, rfl, hfz, hnd⟩ := hW
  have hA : DataW.TrodAll enc Tryz.prog W 0 (fun _ => true) true Tryz.f3.params.toList args.toList ds p := hA0
  have hsz : (DataW.weightsEach Tryz.prog (Tryz.f3.params.toList ++ Rows.arithSolvesSpec.plain.varTypes Tryz.prog) (ds ++ gs)).all (· ≤ reachBytes) = true := hsz0
  rw [params] at hA hval hsz
  obtain ⟨v0, vs0, d0, ds0, p0, q0, hargs, rfl, rfl, h0, r0⟩ := trodAll_cons hA
  obtain ⟨v1, vs1, d1, ds1, p1, q1, rfl, rfl, rfl, h1, r1⟩ := trodAll_cons r0
  obtain ⟨rfl, rfl, rfl⟩ := trodAll_nil r1
  obtain rfl : args = #[v0, v1] := by cases args; simp_all
  obtain ⟨rfl, rfl⟩ := trodVars_none hV
  have hwt : ∀ (j : Nat) (t : TypeId) (d : DataW H), [35, 36][j]? = some t → [d0, d1][j]? = some d → ∀ n ∈ d.weights Tryz.prog t, n ≤ reachBytes := fun j t d ht hd n hn => by
    have := List.all_eq_true.1 hsz n (DataW.weights_mem_each (j := j) (by rw [List.getElem?_append_left (by simpa using (List.getElem?_eq_some_iff.1 ht).1)]; exact ht) (by rw [List.getElem?_append_left (by simpa using (List.getElem?_eq_some_iff.1 hd).1)]; exact hd) n hn)
    simpa using this
  have lt0 : ∀ x ∈ p0, x.block < W.heap.size := by obtain ⟨m, hm⟩ := h0; exact DataW.trod_lt m _ _ _ hm
  have lt1 : ∀ x ∈ p1, x.block < W.heap.size := by obtain ⟨m, hm⟩ := h1; exact DataW.trod_lt m _ _ _ hm
  obtain ⟨N0, a0, cs0, rfl, at0, l0, m0, rfl, k0⟩ := open_encB u_litL o_lit (hval 0 35 v0 rfl rfl) h0 (hwt 0 _ _ rfl rfl)
  obtain ⟨A1, n1, c1, rfl⟩ := okWide_slice Tryz.underlying36 (hval 1 36 v1 rfl rfl)
  obtain ⟨a1, s1⟩ := open_arg o_tolds h1 (hwt 1 _ _ rfl rfl)
  clear hA0 hval0
  refine (arithSolves_walk N0 a0 at0.A at0.n at0.c l0.A l0.n l0.c m0.A m0.n m0.c A1 n1 c1 a1 W k0 s1 (parW_of_laidP hL)).mono fun e W' ⟨he, bel⟩ => ?_
  subst he
  exact ⟨_, rfl, _, _, _, [], _, [], hW', trodAll_mk1 (shut_bool u_bool _),
    (trodAll_cons_mk (Below.trod laidOut (by kernel_rfl) (of_decide_eq_true (by kernel_rfl)) h0 bel lt0)
      (trodAll_cons_mk (Below.trod laidOut (by kernel_rfl) (of_decide_eq_true (by kernel_rfl)) h1 bel lt1)
      trodAll_mk0)), rfl, bel.frame _, fun h => by cases h⟩
end Go.Proofs.YtgabkmibfhmkmaaGreatDoor

namespace Go.Proofs.YtgabkmibfhmkmaaGreatDoor
set_option maxHeartbeats 4000000 in
theorem closedF : joinedFacts Tryz.prog 3 Tryz.f3 Rows.arithSolvesSpec Rows.arithSolvesRow = true := by
  unfold joinedFacts
  simp only [Bool.and_eq_true]
  repeat' (with_reducible refine And.intro ?_ ?_)
  all_goals (as_aux_lemma => kernel_rfl)
end Go.Proofs.YtgabkmibfhmkmaaGreatDoor
