/- ArithEvals: the walk where the expression is not as told. Printed by wip/tools/gen_arev.py. -/
import Derived.Test.YtplekbpmfaghbaaGreatDoorArEvals0
namespace Go.Proofs.YtplekbpmfaghbaaGreatDoor
open Go.RowKit

set_option maxRecDepth 100000 in
theorem is2f_any (w : World) : Calls Tryz.prog 36 #[.iface 90 (.int .i64 2), .int .i64 2] w (RetBool true w) := by
  have hn := Lib.hid (num_any 2 w)
  simp only [errV, if_neg (show ¬ (2 : Int) = 0 by decide)] at hn
  go_enter Tryz.func36, Tryz.ntmps36
  go_wp2_with fail
  refine hn.out.mono ?_
  rintro e w1 ⟨rfl, hb1⟩
  go_wp2_with fail
  go_ret
  exact ⟨rfl, hb1⟩
set_option maxRecDepth 100000 in
set_option maxHeartbeats 8000000 in
theorem arithEvals_false (x : GExp) (A : Option Addr) (n c d : Nat) (B : Option Addr) (bn bc : Nat) (l : List GTold) (w : World) (hop : fits x.op) (hx : x.t.x.size ≤ reachN) (hv : x.t.v.ok) (hk : SliceIs (Enc.exp d) w w.heap.size A n c x.kids) (hl : SliceIs Enc.told w w.heap.size B bn bc l) (hW : ParW w) (hr : rightE 20 x = false) :
    Calls Tryz.prog 5 #[.agg #[.int .i64 x.op, .string x.t.x, .int .i64 x.t.v.k, .int .i64 x.t.v.n, .string x.t.v.s, .slice A n c], .slice B bn bc] w (RetBool true w) := by
  have mixed : Tryz.prog.follows .mixedOrders = true := by kernel_rfl
  have hba : Below w.heap.size w (w.alloc (.cells #[.int .i64 x.op, .string x.t.x, .int .i64 x.t.v.k, .int .i64 x.t.v.n, .string x.t.v.s, .slice A n c] 36)) := belowA (Below.refl _ _) _
  have hr1 : (w.alloc (.cells #[.int .i64 x.op, .string x.t.x, .int .i64 x.t.v.k, .int .i64 x.t.v.n, .string x.t.v.s, .slice A n c] 36)).heap[w.heap.size]? = some (.cells #[.int .i64 x.op, .string x.t.x, .int .i64 x.t.v.k, .int .i64 x.t.v.n, .string x.t.v.s, .slice A n c] 36 (0, 0)) := heapNew rfl
  have HA := Lib.hid (alive13_any _ (hW.on hba))
  have HF : Hid (∀ W, Below (w.alloc (.cells #[.int .i64 x.op, .string x.t.x, .int .i64 x.t.v.k, .int .i64 x.t.v.n, .string x.t.v.s, .slice A n c] 36)).heap.size (w.alloc (.cells #[.int .i64 x.op, .string x.t.x, .int .i64 x.t.v.k, .int .i64 x.t.v.n, .string x.t.v.s, .slice A n c] 36)) W → W.heap[w.heap.size]? = some (.cells #[.int .i64 x.op, .string x.t.x, .int .i64 x.t.v.k, .int .i64 x.t.v.n, .string x.t.v.s, .slice A n c] 36 (0, 0))) := fun W h => (h.block _ (Array.getElem?_eq_some_iff.1 hr1).1).trans hr1
  have HB := Lib.hid hba
  have HK := Lib.hid hk
  have HL := Lib.hid hl
  have HWW := Lib.hid hW
  have HO := Lib.hid (And.intro hop (And.intro hx hv))
  have HS := Lib.hid (fun (W : World) (hb : Below w.heap.size w W) => szRule_any d (ruleL (litOf x)) ⟨none, 0, 0⟩ ⟨some ⟨W.heap.size, 0, none⟩, 1, 1⟩ 400 (W.alloc (.cells #[.int .i64 0, .string ⟨#[]⟩, .slice none 0 0, .int .i64 0, .int .i64 x.op, .string x.t.x, .int .i64 x.t.v.k, .int .i64 x.t.v.n, .string x.t.v.s, .slice A n c, .int .i64 0, .string ⟨#[]⟩, .int .i64 0, .int .i64 0, .string ⟨#[]⟩, .slice none 0 0, .int .i64 0] 38)) (ruleL_at (heapNew rfl) (litOf_at hop hx hv (hk.keep (belowA hb _)))) (by decide) (by decide))
  have HG := Lib.hid (fun (W : World) (hb : Below w.heap.size w W) => long13_any B bn bc l W (hl.keep hb))
  have HSm : Hid (0 ≤ szR (ruleL (litOf x)) 400 → Sm x) := fun h => litOf_sm (by decide) h
  obtain ⟨p, hp⟩ : ∃ p, evalT (getT l) x = p := ⟨_, rfl⟩
  have HTm : Hid (∀ m W, Below w.heap.size w W → EnvIs W m (getT l) → Calls Tryz.prog 39 #[.agg #[.int .i64 x.op, .string x.t.x, .int .i64 x.t.v.k, .int .i64 x.t.v.n, .string x.t.v.s, .slice A n c], m] W (TermErr p (errV 90) W)) := fun m W hb hm => by rw [← hp]; exact evalTop_any x A n c d m _ W (hk.keep hb) hx hm (hW.lex.on hb)
  unfold TermErr at HTm
  obtain rfl : p = (gv0, 2) := by rw [← hp, evalT, if_neg (by rw [hr]; simp)]
  have Hr := Lib.hid hr
  have rn := run_eql_value ⟨0, 0, ⟨#[]⟩⟩ ⟨0, 0, ⟨#[]⟩⟩
  rw [GV.beq_self] at rn
  clear hr
  clear hba hr1 hW hop hx hv hk hl hp
  have hgv : ∃ v : GV, v = ⟨0, 0, ⟨#[]⟩⟩ := ⟨_, rfl⟩
  dsimp only [gv0, errV] at HTm
  simp only [if_neg (show ¬ (2 : Int) = 0 by decide)] at HTm
  clear hgv
  generalize hwb : (w.alloc (.cells #[.int .i64 x.op, .string x.t.x, .int .i64 x.t.v.k, .int .i64 x.t.v.n, .string x.t.v.s, .slice A n c] 36)) = wb at *
  generalize hszr : szR (ruleL (litOf x)) 400 = R at *
  clear hszr
  go_enter Tryz.func5, Tryz.ntmps5
  go_wp2_with fail
  try simp only [hwb]
  clear hwb
  go_wp2_with fail
  refine HA.out.mono ?_
  rintro e w1 ⟨rfl, hb1⟩
  have HB1 := Lib.hid hb1
  obtain ⟨f0, f1, f2, f3, f4, f5⟩ := facts6 (HF.out _ hb1)
  clear hb1 HA
  go_wp2_with fail
  refine (HS.out w1 (below_next HB.out HB1.out)).mono ?_
  rintro e w2 ⟨rfl, hb2⟩
  have HB2 := Lib.hid (below_next (belowA HB1.out (.cells #[.int .i64 0, .string ⟨#[]⟩, .slice none 0 0, .int .i64 0, .int .i64 x.op, .string x.t.x, .int .i64 x.t.v.k, .int .i64 x.t.v.n, .string x.t.v.s, .slice A n c, .int .i64 0, .string ⟨#[]⟩, .int .i64 0, .int .i64 0, .string ⟨#[]⟩, .slice none 0 0, .int .i64 0] 38)) hb2)
  clear hb2 HS f0 f1 f2 f3 f4 f5
  by_cases hR : R < 0
  · clear HTm
    go_wp2_with fail
    go_ret
    exact ⟨rfl, below_next HB.out HB2.out⟩
  have HSm2 := Lib.hid (HSm.out (by omega))
  go_wp2_with fail
  refine (HG.out _ (below_next HB.out HB2.out)).mono ?_
  rintro e w3 ⟨r, rfl, -, hb3⟩
  have HB4 := Lib.hid (below_next HB2.out hb3)
  clear hb3 HSm HG
  cases r with
  | true =>
    clear HTm
    go_wp2_with fail
    go_ret
    exact ⟨rfl, below_next HB.out HB4.out⟩
  | false =>
  obtain ⟨f0, f1, f2, f3, f4, f5⟩ := facts6 (HF.out _ HB4.out)
  have HLs := Lib.hid (HL.out.keep (below_next HB.out HB4.out))
  have HBw := Lib.hid (below_next HB.out HB4.out)
  have Hk : Hid (∀ W, Below w3.heap.size w3 W → W.cell? ⟨w.heap.size, 0, none⟩ = some (.int .i64 x.op) ∧ W.cell? ⟨w.heap.size, 1, none⟩ = some (.string x.t.x) ∧ W.cell? ⟨w.heap.size, 2, none⟩ = some (.int .i64 x.t.v.k) ∧ W.cell? ⟨w.heap.size, 3, none⟩ = some (.int .i64 x.t.v.n) ∧ W.cell? ⟨w.heap.size, 4, none⟩ = some (.string x.t.v.s) ∧ W.cell? ⟨w.heap.size, 5, none⟩ = some (.slice A n c)) := fun W h => facts6 (HF.out _ (below_next HB4.out h))
  have hq1 := Below.refl w3.heap.size w3
  clear HB2
  go_wp2_with fail
  go_region_held3 (fun W => W.cell? ⟨w.heap.size, 0, none⟩ = some (.int .i64 x.op) ∧ W.cell? ⟨w.heap.size, 1, none⟩ = some (.string x.t.x) ∧ W.cell? ⟨w.heap.size, 2, none⟩ = some (.int .i64 x.t.v.k) ∧ W.cell? ⟨w.heap.size, 3, none⟩ = some (.int .i64 x.t.v.n) ∧ W.cell? ⟨w.heap.size, 4, none⟩ = some (.string x.t.v.s) ∧ W.cell? ⟨w.heap.size, 5, none⟩ = some (.slice A n c))
    (first
      | (refine Hk.out _ ?_; (repeat (first | with_reducible exact Below.refl _ _ | with_reducible assumption | with_reducible refine Below.drew ?_ | with_reducible refine belowA ?_ _ | with_reducible refine Below.setCell ?_ (by first | exact Nat.le_refl _ | exact hq2.size | exact hq3.size) _)); done)
      | go_keep)
    ((first
      | (go_at_call 40
         refine (env_any B bn bc l w3.drew (HLs.out.keep ((Below.refl _ _).drew))).mono ?_
         rintro e5 w5 ⟨g, rfl, hg, hgs, hb5⟩
         have hq2 : Below w3.heap.size w3 w5 := ((Below.refl w3.heap.size w3).drew).trans hb5
         clear hb5)
      | (go_at_call 40
         refine (env_any B bn bc l (w3.drew.alloc (.cells #[.int .i64 0, .int .i64 0, .string ⟨#[]⟩] 31)) (HLs.out.keep (belowA ((Below.refl _ _).drew) _))).mono ?_
         rintro e5 w5 ⟨g, rfl, hg, hgs, hb5⟩
         have hq2 : Below w3.heap.size w3 w5 := (belowA ((Below.refl w3.heap.size w3).drew) (.cells #[.int .i64 0, .int .i64 0, .string ⟨#[]⟩] 31)).trans (hb5.mono (belowA ((Below.refl w3.heap.size w3).drew) (.cells #[.int .i64 0, .int .i64 0, .string ⟨#[]⟩] 31)).size)
         have hh5 := (hb5.block w3.heap.size (by simp)).trans (heapNew (w := w3.drew) (o := (.cells #[.int .i64 0, .int .i64 0, .string ⟨#[]⟩] 31)) rfl)
         clear hb5)
      | (go_at_call 39
         refine (HTm.out (.map (some g)) w5 (below_next HBw.out hq2) ⟨_, .inr ⟨g, rfl, hg⟩, envOf_keys _, fun s => envOf_get _ s⟩).mono ?_
         rintro e6 w6 ⟨rfl, hb6⟩
         have hq3 : Below w3.heap.size w3 w6 := hq2.trans (hb6.mono hq2.size)
         try
           have hh := (hb6.block w3.heap.size (Array.getElem?_eq_some_iff.1 hh5).1).trans hh5
           obtain ⟨y0, y1, y2⟩ := facts3 hh
           obtain ⟨x0, x1, x2⟩ := frz3 hh
         clear hb6)
      | (go_at_call 39
         refine (HTm.out (.map (some g)) (w5.alloc (.cells #[.int .i64 0, .int .i64 0, .string ⟨#[]⟩] 31)) (below_next HBw.out (belowA hq2 (.cells #[.int .i64 0, .int .i64 0, .string ⟨#[]⟩] 31))) ⟨_, .inr ⟨g, rfl, hg.alloc _⟩, envOf_keys _, fun s => envOf_get _ s⟩).mono ?_
         rintro e6 w6 ⟨rfl, hb6⟩
         have hq3 : Below w3.heap.size w3 w6 := (belowA hq2 (.cells #[.int .i64 0, .int .i64 0, .string ⟨#[]⟩] 31)).trans (hb6.mono (belowA hq2 (.cells #[.int .i64 0, .int .i64 0, .string ⟨#[]⟩] 31)).size)
         have hh := (hb6.block w5.heap.size (by simp)).trans (heapNew (w := w5) (o := (.cells #[.int .i64 0, .int .i64 0, .string ⟨#[]⟩] 31)) rfl)
         obtain ⟨y0, y1, y2⟩ := facts3 hh
         obtain ⟨x0, x1, x2⟩ := frz3 hh
         clear hb6)))
  · have hrow : (w6.alloc (.cells #[.int .i64 0, .int .i64 0, .string ⟨#[]⟩] 31)).heap[w6.heap.size]? = some (.cells #[.int .i64 0, .int .i64 0, .string ⟨#[]⟩] 31 (0, 0)) := heapNew rfl
    have hbw : Below w3.heap.size w3 (w6.alloc (.cells #[.int .i64 0, .int .i64 0, .string ⟨#[]⟩] 31)) := belowA hq3 _
    generalize w6.alloc (.cells #[.int .i64 0, .int .i64 0, .string ⟨#[]⟩] 31) = w7 at *
    generalize w6.heap.size = vb at *
    have Hrow := Lib.hid hrow
    have HB7 := Lib.hid (below_next HB4.out hbw)
    obtain ⟨t0, t1, t2, t3, t4, t5⟩ := facts6 (HF.out _ HB7.out)
    clear hrow hbw hq1 hq2 hq3 HTm Hk HLs hg hgs f0 f1 f2 f3 f4 f5 HBw
    go_wp2_with fail
    refine (copyExp_any d x A n c w7 (HK.out.keep (below_next HB.out HB7.out)) HSm2.out HO.out.1 HO.out.2.1 HO.out.2.2).mono ?_
    rintro e8 w8 ⟨A2, c2, rfl, hs8, hb8⟩
    have HB8 := Lib.hid (below_next HB7.out hb8)
    have h8 := (hb8.block _ (Array.getElem?_eq_some_iff.1 Hrow.out).1).trans Hrow.out
    have h9 := heapOld (o := .cells #[.int .i64 x.op, .string x.t.x, .int .i64 x.t.v.k, .int .i64 x.t.v.n, .string x.t.v.s, .slice A2 x.kids.length c2] 51) h8
    have h9n : (w8.alloc (.cells #[.int .i64 x.op, .string x.t.x, .int .i64 x.t.v.k, .int .i64 x.t.v.n, .string x.t.v.s, .slice A2 x.kids.length c2] 51)).heap[w8.heap.size]? = some (.cells #[.int .i64 x.op, .string x.t.x, .int .i64 x.t.v.k, .int .i64 x.t.v.n, .string x.t.v.s, .slice A2 x.kids.length c2] 51 (0, 0)) := heapNew rfl
    have hq9 := belowA (Below.refl w8.heap.size w8) (.cells #[.int .i64 x.op, .string x.t.x, .int .i64 x.t.v.k, .int .i64 x.t.v.n, .string x.t.v.s, .slice A2 x.kids.length c2] 51)
    have HB9 := Lib.hid (below_next HB8.out hq9)
    have Hrow9 := Lib.hid (And.intro h9 h9n)
    have HK9 := Lib.hid (hs8.is.keep hq9)
    clear hb8 h8 h9 h9n t0 t1 t2 t3 t4 t5 hs8 hq9
    generalize hw9 : w8.alloc (.cells #[.int .i64 x.op, .string x.t.x, .int .i64 x.t.v.k, .int .i64 x.t.v.n, .string x.t.v.s, .slice A2 x.kids.length c2] 51) = w9 at *
    obtain ⟨t0, t1, t2, t3, t4, t5⟩ := facts6 Hrow9.out.2
    go_wp2_with fail
    try simp only [hw9]
    clear hw9
    go_wp2_with fail
    have HRt := Lib.hid (refRightExp_any x A2 x.kids.length c2 d w9 HK9.out HO.out.2.2)
    rw [Hr.out] at HRt
    refine HRt.out.mono ?_
    rintro e10 w10 ⟨rfl, hb10⟩
    have HB10 := Lib.hid (below_next HB9.out hb10)
    have HK10 := Lib.hid (HK9.out.keep hb10)
    have h10a := (hb10.block _ (Array.getElem?_eq_some_iff.1 Hrow9.out.1).1).trans Hrow9.out.1
    have h10b := (hb10.block _ (Array.getElem?_eq_some_iff.1 Hrow9.out.2).1).trans Hrow9.out.2
    have Hrow10 := Lib.hid (And.intro h10a h10b)
    obtain ⟨u0, u1, u2, u3, u4, u5⟩ := facts6 h10b
    clear hb10 h10a h10b t0 t1 t2 t3 t4 t5 HRt
    go_wp2_with fail
    refine (is2f_any _).mono ?_
    rintro e11 w11 ⟨rfl, hb11⟩
    have HB11 := Lib.hid (below_next HB10.out hb11)
    obtain ⟨v0, v1, v2⟩ := facts3 ((hb11.block _ (Array.getElem?_eq_some_iff.1 Hrow10.out.1).1).trans Hrow10.out.1)
    clear hb11
    go_wp2_with fail
    go_ret
    exact ⟨rfl, below_next HB.out HB11.out⟩
  · have hrow : (((w6.setCell ⟨w5.heap.size, 0, none⟩ (.int .i64 0)).setCell ⟨w5.heap.size, 1, none⟩ (.int .i64 0)).setCell ⟨w5.heap.size, 2, none⟩ (.string ⟨#[]⟩)).heap[w5.heap.size]? = some (.cells #[.int .i64 0, .int .i64 0, .string ⟨#[]⟩] 31 (0, 0)) := row_set (i := 2) _ (row_set (i := 1) _ (row_set (i := 0) _ hh))
    have hbw : Below w3.heap.size w3 (((w6.setCell ⟨w5.heap.size, 0, none⟩ (.int .i64 0)).setCell ⟨w5.heap.size, 1, none⟩ (.int .i64 0)).setCell ⟨w5.heap.size, 2, none⟩ (.string ⟨#[]⟩)) := ((hq3.setCell hq2.size _).setCell hq2.size _).setCell hq2.size _
    generalize ((w6.setCell ⟨w5.heap.size, 0, none⟩ (.int .i64 0)).setCell ⟨w5.heap.size, 1, none⟩ (.int .i64 0)).setCell ⟨w5.heap.size, 2, none⟩ (.string ⟨#[]⟩) = w7 at *
    generalize w5.heap.size = vb at *
    have Hrow := Lib.hid hrow
    have HB7 := Lib.hid (below_next HB4.out hbw)
    obtain ⟨t0, t1, t2, t3, t4, t5⟩ := facts6 (HF.out _ HB7.out)
    clear hrow hbw hq1 hq2 hq3 HTm Hk HLs hg hgs f0 f1 f2 f3 f4 f5 HBw
    go_wp2_with fail
    refine (copyExp_any d x A n c w7 (HK.out.keep (below_next HB.out HB7.out)) HSm2.out HO.out.1 HO.out.2.1 HO.out.2.2).mono ?_
    rintro e8 w8 ⟨A2, c2, rfl, hs8, hb8⟩
    have HB8 := Lib.hid (below_next HB7.out hb8)
    have h8 := (hb8.block _ (Array.getElem?_eq_some_iff.1 Hrow.out).1).trans Hrow.out
    have h9 := heapOld (o := .cells #[.int .i64 x.op, .string x.t.x, .int .i64 x.t.v.k, .int .i64 x.t.v.n, .string x.t.v.s, .slice A2 x.kids.length c2] 51) h8
    have h9n : (w8.alloc (.cells #[.int .i64 x.op, .string x.t.x, .int .i64 x.t.v.k, .int .i64 x.t.v.n, .string x.t.v.s, .slice A2 x.kids.length c2] 51)).heap[w8.heap.size]? = some (.cells #[.int .i64 x.op, .string x.t.x, .int .i64 x.t.v.k, .int .i64 x.t.v.n, .string x.t.v.s, .slice A2 x.kids.length c2] 51 (0, 0)) := heapNew rfl
    have hq9 := belowA (Below.refl w8.heap.size w8) (.cells #[.int .i64 x.op, .string x.t.x, .int .i64 x.t.v.k, .int .i64 x.t.v.n, .string x.t.v.s, .slice A2 x.kids.length c2] 51)
    have HB9 := Lib.hid (below_next HB8.out hq9)
    have Hrow9 := Lib.hid (And.intro h9 h9n)
    have HK9 := Lib.hid (hs8.is.keep hq9)
    clear hb8 h8 h9 h9n t0 t1 t2 t3 t4 t5 hs8 hq9
    generalize hw9 : w8.alloc (.cells #[.int .i64 x.op, .string x.t.x, .int .i64 x.t.v.k, .int .i64 x.t.v.n, .string x.t.v.s, .slice A2 x.kids.length c2] 51) = w9 at *
    obtain ⟨t0, t1, t2, t3, t4, t5⟩ := facts6 Hrow9.out.2
    go_wp2_with fail
    try simp only [hw9]
    clear hw9
    go_wp2_with fail
    have HRt := Lib.hid (refRightExp_any x A2 x.kids.length c2 d w9 HK9.out HO.out.2.2)
    rw [Hr.out] at HRt
    refine HRt.out.mono ?_
    rintro e10 w10 ⟨rfl, hb10⟩
    have HB10 := Lib.hid (below_next HB9.out hb10)
    have HK10 := Lib.hid (HK9.out.keep hb10)
    have h10a := (hb10.block _ (Array.getElem?_eq_some_iff.1 Hrow9.out.1).1).trans Hrow9.out.1
    have h10b := (hb10.block _ (Array.getElem?_eq_some_iff.1 Hrow9.out.2).1).trans Hrow9.out.2
    have Hrow10 := Lib.hid (And.intro h10a h10b)
    obtain ⟨u0, u1, u2, u3, u4, u5⟩ := facts6 h10b
    clear hb10 h10a h10b t0 t1 t2 t3 t4 t5 HRt
    go_wp2_with fail
    refine (is2f_any _).mono ?_
    rintro e11 w11 ⟨rfl, hb11⟩
    have HB11 := Lib.hid (below_next HB10.out hb11)
    obtain ⟨v0, v1, v2⟩ := facts3 ((hb11.block _ (Array.getElem?_eq_some_iff.1 Hrow10.out.1).1).trans Hrow10.out.1)
    clear hb11
    go_wp2_with fail
    go_ret
    exact ⟨rfl, below_next HB.out HB11.out⟩
  · have hrow : (((w6.setCell ⟨w3.heap.size, 0, none⟩ (.int .i64 0)).setCell ⟨w3.heap.size, 1, none⟩ (.int .i64 0)).setCell ⟨w3.heap.size, 2, none⟩ (.string ⟨#[]⟩)).heap[w3.heap.size]? = some (.cells #[.int .i64 0, .int .i64 0, .string ⟨#[]⟩] 31 (0, 0)) := row_set (i := 2) _ (row_set (i := 1) _ (row_set (i := 0) _ hh))
    have hbw : Below w3.heap.size w3 (((w6.setCell ⟨w3.heap.size, 0, none⟩ (.int .i64 0)).setCell ⟨w3.heap.size, 1, none⟩ (.int .i64 0)).setCell ⟨w3.heap.size, 2, none⟩ (.string ⟨#[]⟩)) := ((hq3.setCell (Nat.le_refl _) _).setCell (Nat.le_refl _) _).setCell (Nat.le_refl _) _
    generalize ((w6.setCell ⟨w3.heap.size, 0, none⟩ (.int .i64 0)).setCell ⟨w3.heap.size, 1, none⟩ (.int .i64 0)).setCell ⟨w3.heap.size, 2, none⟩ (.string ⟨#[]⟩) = w7 at *
    have Hrow := Lib.hid hrow
    have HB7 := Lib.hid (below_next HB4.out hbw)
    obtain ⟨t0, t1, t2, t3, t4, t5⟩ := facts6 (HF.out _ HB7.out)
    clear hrow hbw hq1 hq2 hq3 HTm Hk HLs hg hgs f0 f1 f2 f3 f4 f5 HBw
    go_wp2_with fail
    refine (copyExp_any d x A n c w7 (HK.out.keep (below_next HB.out HB7.out)) HSm2.out HO.out.1 HO.out.2.1 HO.out.2.2).mono ?_
    rintro e8 w8 ⟨A2, c2, rfl, hs8, hb8⟩
    have HB8 := Lib.hid (below_next HB7.out hb8)
    have h8 := (hb8.block _ (Array.getElem?_eq_some_iff.1 Hrow.out).1).trans Hrow.out
    have h9 := heapOld (o := .cells #[.int .i64 x.op, .string x.t.x, .int .i64 x.t.v.k, .int .i64 x.t.v.n, .string x.t.v.s, .slice A2 x.kids.length c2] 51) h8
    have h9n : (w8.alloc (.cells #[.int .i64 x.op, .string x.t.x, .int .i64 x.t.v.k, .int .i64 x.t.v.n, .string x.t.v.s, .slice A2 x.kids.length c2] 51)).heap[w8.heap.size]? = some (.cells #[.int .i64 x.op, .string x.t.x, .int .i64 x.t.v.k, .int .i64 x.t.v.n, .string x.t.v.s, .slice A2 x.kids.length c2] 51 (0, 0)) := heapNew rfl
    have hq9 := belowA (Below.refl w8.heap.size w8) (.cells #[.int .i64 x.op, .string x.t.x, .int .i64 x.t.v.k, .int .i64 x.t.v.n, .string x.t.v.s, .slice A2 x.kids.length c2] 51)
    have HB9 := Lib.hid (below_next HB8.out hq9)
    have Hrow9 := Lib.hid (And.intro h9 h9n)
    have HK9 := Lib.hid (hs8.is.keep hq9)
    clear hb8 h8 h9 h9n t0 t1 t2 t3 t4 t5 hs8 hq9
    generalize hw9 : w8.alloc (.cells #[.int .i64 x.op, .string x.t.x, .int .i64 x.t.v.k, .int .i64 x.t.v.n, .string x.t.v.s, .slice A2 x.kids.length c2] 51) = w9 at *
    obtain ⟨t0, t1, t2, t3, t4, t5⟩ := facts6 Hrow9.out.2
    go_wp2_with fail
    try simp only [hw9]
    clear hw9
    go_wp2_with fail
    have HRt := Lib.hid (refRightExp_any x A2 x.kids.length c2 d w9 HK9.out HO.out.2.2)
    rw [Hr.out] at HRt
    refine HRt.out.mono ?_
    rintro e10 w10 ⟨rfl, hb10⟩
    have HB10 := Lib.hid (below_next HB9.out hb10)
    have HK10 := Lib.hid (HK9.out.keep hb10)
    have h10a := (hb10.block _ (Array.getElem?_eq_some_iff.1 Hrow9.out.1).1).trans Hrow9.out.1
    have h10b := (hb10.block _ (Array.getElem?_eq_some_iff.1 Hrow9.out.2).1).trans Hrow9.out.2
    have Hrow10 := Lib.hid (And.intro h10a h10b)
    obtain ⟨u0, u1, u2, u3, u4, u5⟩ := facts6 h10b
    clear hb10 h10a h10b t0 t1 t2 t3 t4 t5 HRt
    go_wp2_with fail
    refine (is2f_any _).mono ?_
    rintro e11 w11 ⟨rfl, hb11⟩
    have HB11 := Lib.hid (below_next HB10.out hb11)
    obtain ⟨v0, v1, v2⟩ := facts3 ((hb11.block _ (Array.getElem?_eq_some_iff.1 Hrow10.out.1).1).trans Hrow10.out.1)
    clear hb11
    go_wp2_with fail
    go_ret
    exact ⟨rfl, below_next HB.out HB11.out⟩
end Go.Proofs.YtplekbpmfaghbaaGreatDoor
