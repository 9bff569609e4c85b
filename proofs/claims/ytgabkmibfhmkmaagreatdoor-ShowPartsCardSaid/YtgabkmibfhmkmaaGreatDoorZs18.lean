/- My own texts ShowParts, LiftShowParts, FactsShowParts, as far as this claim needs them. -/
import Derived.Test.YtgabkmibfhmkmaaGreatDoorZs12
import Derived.Test.YtgabkmibfhmkmaaGreatDoorZs15
import Derived.Test.YtgabkmibfhmkmaaGreatDoorZs16
import Derived.Test.YtgabkmibfhmkmaaGreatDoorZs17
import Derived.Test.YtgabkmibfhmkmaaGreatDoorRows
import Derived.JoinedOf
set_option linter.unusedVariables false
set_option linter.unusedSimpArgs false
namespace Go.Proofs.YtgabkmibfhmkmaaGreatDoor
open Go.RowKit
theorem kept_slab {W W' : World} {lo hi : Nat} (h : ∀ b, lo ≤ b → b < hi → W'.heap[b]? = W.heap[b]?) : Kept (sans W (List.range lo)) (sans W' (List.range lo)) hi := fun b hb cs t fr hcs hc => by
  obtain ⟨hn, hw⟩ := sans_in hcs hc
  have hlo : lo ≤ b := by
    rcases Nat.lt_or_ge b lo with h1 | h1
    · exact absurd (List.mem_range.2 h1) hn
    · exact h1
  rw [sans_out hn, h b hlo hb, hw]
def spS (d1 d2 d3 : Nat) (x : GRule) (y : GLit) (e : GExp) : Nat → BoxSpec
  | 0 => ⟨6, 9, 1, 7, 31, true, 75, zrC.toArray, fun v lo hi W => ∃ a b, v = (ruleC x a b).toArray ∧ RuleAt d1 (sans W (List.range lo)) hi x a b⟩
  | 1 => ⟨7, 10, 3, 8, 33, true, 51, zlC.toArray, fun v lo hi W => ∃ a p q, v = (litC y a p q).toArray ∧ LitAt d2 (sans W (List.range lo)) hi y a p q⟩
  | _ => ⟨8, 11, 5, 9, 35, false, 49, zeC.toArray, fun v lo hi W => ∃ A c, v = (expC e A e.kids.length c).toArray ∧ SliceIs (Enc.exp d3) (sans W (List.range lo)) hi A e.kids.length c e.kids⟩
theorem three {p : Nat → Prop} (h0 : p 0) (h1 : p 1) (h2 : p 2) : ∀ k, k < 3 → p k
  | 0, _ => h0
  | 1, _ => h1
  | 2, _ => h2
  | k + 3, h => by omega
theorem spS_apart (d1 d2 d3 : Nat) (x : GRule) (y : GLit) (e : GExp) : Apart 3 (spS d1 d2 d3 x y e) where
  aa := three (three (by simp [spS]) (by simp [spS]) (by simp [spS])) (three (by simp [spS]) (by simp [spS]) (by simp [spS])) (three (by simp [spS]) (by simp [spS]) (by simp [spS]))
  ac := three (three (by simp [spS]) (by simp [spS]) (by simp [spS])) (three (by simp [spS]) (by simp [spS]) (by simp [spS])) (three (by simp [spS]) (by simp [spS]) (by simp [spS]))
  ai := three (three (by simp [spS]) (by simp [spS]) (by simp [spS])) (three (by simp [spS]) (by simp [spS]) (by simp [spS])) (three (by simp [spS]) (by simp [spS]) (by simp [spS]))
  cc := three (three (by simp [spS]) (by simp [spS]) (by simp [spS])) (three (by simp [spS]) (by simp [spS]) (by simp [spS])) (three (by simp [spS]) (by simp [spS]) (by simp [spS]))
  ci := three (three (by simp [spS]) (by simp [spS]) (by simp [spS])) (three (by simp [spS]) (by simp [spS]) (by simp [spS])) (three (by simp [spS]) (by simp [spS]) (by simp [spS]))
  ii := three (three (by simp [spS]) (by simp [spS]) (by simp [spS])) (three (by simp [spS]) (by simp [spS]) (by simp [spS])) (three (by simp [spS]) (by simp [spS]) (by simp [spS]))
  dd := three (three (by simp [spS]) (by simp [spS]) (by simp [spS])) (three (by simp [spS]) (by simp [spS]) (by simp [spS])) (three (by simp [spS]) (by simp [spS]) (by simp [spS]))
  dc := three (three (by simp [spS]) (by simp [spS]) (by simp [spS])) (three (by simp [spS]) (by simp [spS]) (by simp [spS])) (three (by simp [spS]) (by simp [spS]) (by simp [spS]))
  ee := three (three (by simp [spS]) (by simp [spS]) (by simp [spS])) (three (by simp [spS]) (by simp [spS]) (by simp [spS])) (three (by simp [spS]) (by simp [spS]) (by simp [spS]))
theorem spS_firm (d1 d2 d3 : Nat) (x : GRule) (y : GLit) (e : GExp) : Firm 3 (spS d1 d2 d3 x y e) :=
  three (fun _ _ _ _ _ ⟨a, b, h1, h2⟩ h => ⟨a, b, h1, h2.mono' (Nat.le_refl _) (kept_slab h)⟩) (fun _ _ _ _ _ ⟨a, p, q, h1, h2⟩ h => ⟨a, p, q, h1, h2.mono' (Nat.le_refl _) (kept_slab h)⟩) (fun _ _ _ _ _ ⟨A, c, h1, h2⟩ h => ⟨A, c, h1, h2.mono' (Nat.le_refl _) (kept_slab h)⟩)
def spF (cr cl ce : List Value) (i : Nat) (v : Value) (_W : World) : Prop := match i with
  | 0 => v = .agg cr.toArray
  | 2 => v = .agg cl.toArray
  | 4 => v = .agg ce.toArray
  | _ => True
theorem rule_size (x : GRule) (a b : Hd) : (Tryz.prog.info? 41).map (·.size) = some (ruleC x a b).length := by
  show _ = some 6
  kernel_rfl
set_option maxRecDepth 100000 in
set_option maxHeartbeats 8000000 in
theorem showParts_walk (d1 d2 d3 : Nat) (x : GRule) (A : Option Addr) (an ac : Nat) (B : Option Addr) (bn bc : Nat) (y : GLit) (A2 : Option Addr) (n2 c2 : Nat) (P2 : Option Addr) (pn pc : Nat) (Q2 : Option Addr) (qn qc : Nat) (e : GExp) (E : Option Addr) (en ec : Nat) (w : World)
    (hx : RuleAt d1 w w.heap.size x ⟨A, an, ac⟩ ⟨B, bn, bc⟩) (hy : LitAt d2 w w.heap.size y ⟨A2, n2, c2⟩ ⟨P2, pn, pc⟩ ⟨Q2, qn, qc⟩) (he : ExpAt d3 w e E en ec) (hL : LexW w) (hS : ShowW w) :
    Calls Tryz.prog 4 #[.agg (ruleC x ⟨A, an, ac⟩ ⟨B, bn, bc⟩).toArray, .agg (litC y ⟨A2, n2, c2⟩ ⟨P2, pn, pc⟩ ⟨Q2, qn, qc⟩).toArray, .agg (expC e E en ec).toArray] w (RetBool true w) := by
  have mixed : Tryz.prog.follows .mixedOrders = true := by kernel_rfl
  have HX := Lib.hid hx
  have HY := Lib.hid hy
  have HE := Lib.hid he
  have HL := Lib.hid (fun (W : World) (hb : Below w.heap.size w W) => hL.on hb)
  have HS := Lib.hid (fun (W : World) (hb : Below w.heap.size w W) => hS.on hb)
  have hrX : (((w.alloc (.cells (ruleC x ⟨A, an, ac⟩ ⟨B, bn, bc⟩).toArray 41)).alloc (.cells (litC y ⟨A2, n2, c2⟩ ⟨P2, pn, pc⟩ ⟨Q2, qn, qc⟩).toArray 35)).alloc (.cells (expC e E en ec).toArray 33)).heap[w.heap.size]? = some (.cells (ruleC x ⟨A, an, ac⟩ ⟨B, bn, bc⟩).toArray 41 (0, 0)) := heapOld (heapOld (heapNew rfl))
  have hrY : (((w.alloc (.cells (ruleC x ⟨A, an, ac⟩ ⟨B, bn, bc⟩).toArray 41)).alloc (.cells (litC y ⟨A2, n2, c2⟩ ⟨P2, pn, pc⟩ ⟨Q2, qn, qc⟩).toArray 35)).alloc (.cells (expC e E en ec).toArray 33)).heap[w.heap.size + 1]? = some (.cells (litC y ⟨A2, n2, c2⟩ ⟨P2, pn, pc⟩ ⟨Q2, qn, qc⟩).toArray 35 (0, 0)) := heapOld (heapNew (by simp))
  have hrE : (((w.alloc (.cells (ruleC x ⟨A, an, ac⟩ ⟨B, bn, bc⟩).toArray 41)).alloc (.cells (litC y ⟨A2, n2, c2⟩ ⟨P2, pn, pc⟩ ⟨Q2, qn, qc⟩).toArray 35)).alloc (.cells (expC e E en ec).toArray 33)).heap[w.heap.size + 2]? = some (.cells (expC e E en ec).toArray 33 (0, 0)) := heapNew (by simp)
  have hb0 : Below w.heap.size w (((w.alloc (.cells (ruleC x ⟨A, an, ac⟩ ⟨B, bn, bc⟩).toArray 41)).alloc (.cells (litC y ⟨A2, n2, c2⟩ ⟨P2, pn, pc⟩ ⟨Q2, qn, qc⟩).toArray 35)).alloc (.cells (expC e E en ec).toArray 33)) := belowA (belowA (belowA (Below.refl _ _) _) _) _
  clear hx hy he hL hS
  go_enter Tryz.func4, Tryz.ntmps4
  go_wp2_with fail
  try simp only [Nat.add_assoc, Nat.reduceAdd]
  generalize hwb : (((w.alloc (.cells (ruleC x ⟨A, an, ac⟩ ⟨B, bn, bc⟩).toArray 41)).alloc (.cells (litC y ⟨A2, n2, c2⟩ ⟨P2, pn, pc⟩ ⟨Q2, qn, qc⟩).toArray 35)).alloc (.cells (expC e E en ec).toArray 33)) = wb at *
  clear hwb
  have HA := Lib.hid (alive7_any wb (HL.out _ hb0) (HS.out _ hb0))
  refine HA.out.mono ?_
  rintro r w1 ⟨rfl, hb1⟩
  replace hrX := (hb1.block _ (Array.getElem?_eq_some_iff.1 hrX).1).trans hrX
  replace hrY := (hb1.block _ (Array.getElem?_eq_some_iff.1 hrY).1).trans hrY
  replace hrE := (hb1.block _ (Array.getElem?_eq_some_iff.1 hrE).1).trans hrE
  replace hb0 := below_next hb0 hb1
  clear HA hb1
  obtain ⟨f0, f1, f2, f3, f4, f5⟩ := facts6 hrX
  have HZ := Lib.hid (szRule_any d1 x ⟨A, an, ac⟩ ⟨B, bn, bc⟩ 500 w1 (HX.out.keep hb0) (by omega) (by omega))
  go_wp2_with fail
  refine HZ.out.mono ?_
  rintro r w2 ⟨rfl, hb1⟩
  replace hrX := (hb1.block _ (Array.getElem?_eq_some_iff.1 hrX).1).trans hrX
  replace hrY := (hb1.block _ (Array.getElem?_eq_some_iff.1 hrY).1).trans hrY
  replace hrE := (hb1.block _ (Array.getElem?_eq_some_iff.1 hrE).1).trans hrE
  replace hb0 := below_next hb0 hb1
  clear HZ hb1 f0 f1 f2 f3 f4 f5
  obtain ⟨R1, HR1⟩ : ∃ R1, Hid (szR x 500 = R1) := ⟨_, rfl⟩
  rw [HR1.out]
  by_cases hneg : R1 < 0
  · clear HR1 HX HY HE HL HS
    go_wp2_with fail
    go_ret
    exact ⟨rfl, hb0⟩
  obtain ⟨g0, g1, g2, g3, g4, g5, g6, g7, g8, g9, g10, g11, g12, g13, g14, g15, g16⟩ := facts17 hrY
  obtain ⟨e0, e1, e2, e3, e4, e5⟩ := facts6 hrE
  have HB0 := Lib.hid hb0
  have HrX := Lib.hid hrX
  have HrY := Lib.hid hrY
  have HrE := Lib.hid hrE
  clear hb0 hrX hrY hrE
  have HRy := Lib.hid (range_row HrY.out)
  go_wp2_with fail
  clear g0 g1 g2 g3 g4 g5 g6 g7 g8 g9 g10 g11 g12 g13 g14 g15 g16 e0 e1 e2 e3 e4 e5
  have h3r : (w2.alloc (.cells ((litC y ⟨A2, n2, c2⟩ ⟨P2, pn, pc⟩ ⟨Q2, qn, qc⟩) ++ litC (litOf e) ⟨none, 0, 0⟩ ⟨E, en, ec⟩ ⟨none, 0, 0⟩).toArray 35)).heap[w2.heap.size]? = some (.cells ((litC y ⟨A2, n2, c2⟩ ⟨P2, pn, pc⟩ ⟨Q2, qn, qc⟩) ++ litC (litOf e) ⟨none, 0, 0⟩ ⟨E, en, ec⟩ ⟨none, 0, 0⟩).toArray 35 (0, 0)) := heapNew rfl
  have b3 : Below w2.heap.size w2 (w2.alloc (.cells ((litC y ⟨A2, n2, c2⟩ ⟨P2, pn, pc⟩ ⟨Q2, qn, qc⟩) ++ litC (litOf e) ⟨none, 0, 0⟩ ⟨E, en, ec⟩ ⟨none, 0, 0⟩).toArray 35)) := belowA (Below.refl _ _) _
  have l1 := ((HY.out.keep HB0.out).keep b3).up (show d2 ≤ d2 + d3 by omega)
  have x1 := (HE.out.keep HB0.out).keep b3
  have l2 : LitAt (d2 + d3) (w2.alloc (.cells ((litC y ⟨A2, n2, c2⟩ ⟨P2, pn, pc⟩ ⟨Q2, qn, qc⟩) ++ litC (litOf e) ⟨none, 0, 0⟩ ⟨E, en, ec⟩ ⟨none, 0, 0⟩).toArray 35)) (w2.alloc (.cells ((litC y ⟨A2, n2, c2⟩ ⟨P2, pn, pc⟩ ⟨Q2, qn, qc⟩) ++ litC (litOf e) ⟨none, 0, 0⟩ ⟨E, en, ec⟩ ⟨none, 0, 0⟩).toArray 35)).heap.size (litOf e) ⟨none, 0, 0⟩ ⟨E, en, ec⟩ ⟨none, 0, 0⟩ := ⟨fits0, fits0, fits0, Nat.zero_le _, SliceIs.nil, x1.fop, x1.fx, x1.fv, kids_up (by omega) x1.kids, fits0, Nat.zero_le _, gv0_ok, SliceIs.nil⟩
  have HZ := Lib.hid (szRule_any (d2 + d3) (ruleOf y (litOf e)) ⟨none, 0, 0⟩ ⟨some ⟨w2.heap.size, 0, none⟩, 2, 2⟩ 500 _ ⟨Nat.zero_le _, SliceIs.nil, fits0, fits0, two_lits h3r l1 l2, fits0⟩ (by omega) (by omega))
  have HB3 := Lib.hid (below_next HB0.out b3)
  have HrX3 := Lib.hid ((b3.block _ (Array.getElem?_eq_some_iff.1 HrX.out).1).trans HrX.out)
  have HrY3 := Lib.hid ((b3.block _ (Array.getElem?_eq_some_iff.1 HrY.out).1).trans HrY.out)
  have HrE3 := Lib.hid ((b3.block _ (Array.getElem?_eq_some_iff.1 HrE.out).1).trans HrE.out)
  clear h3r b3 l1 x1 l2 HrX HrY HrE HB0 HRy
  refine HZ.out.mono ?_
  rintro r w3 ⟨rfl, hb1⟩
  have HB := Lib.hid (below_next HB3.out hb1)
  have HrX := Lib.hid ((hb1.block _ (Array.getElem?_eq_some_iff.1 HrX3.out).1).trans HrX3.out)
  have HrY := Lib.hid ((hb1.block _ (Array.getElem?_eq_some_iff.1 HrY3.out).1).trans HrY3.out)
  have HrE := Lib.hid ((hb1.block _ (Array.getElem?_eq_some_iff.1 HrE3.out).1).trans HrE3.out)
  clear hb1 HZ HB3 HrX3 HrY3 HrE3
  obtain ⟨R2, HR2⟩ : ∃ R2, Hid (szR (ruleOf y (litOf e)) 500 = R2) := ⟨_, rfl⟩
  rw [HR2.out]
  by_cases hneg2 : R2 < 0
  · clear HR1 HR2 HX HY HE HL HS
    go_wp2_with fail
    go_ret
    exact ⟨rfl, HB.out⟩
  have hR1 : 0 ≤ szR x 500 := by rw [HR1.out]; omega
  have hR2 : 0 ≤ szR (ruleOf y (litOf e)) 500 := by rw [HR2.out]; omega
  obtain ⟨⟨hy1, hy2⟩, u, hu1, hu2⟩ := szOf_pos hR2
  have HSx := Lib.hid (szR_all hR1 (by omega)).1
  have HSy : Hid (SmLit y) := by
    have h1 : 0 ≤ szB [y] 499 := by rw [szB, szB]; rw [if_neg (by omega)]; exact hy1
    exact (szB_all [y] 499 h1 (by omega)).2.2 y (by simp)
  have HSe := Lib.hid (Sm.of hu2 (by omega))
  have HTx : Hid ((ruleS x).length ≤ 1000000000000) := by
    have h1 := ruleS_len hR1
    show _ ≤ _
    omega
  have HTy : Hid ((litS y).length ≤ 1000000000000) := by
    have h1 := litS_len hy1
    show _ ≤ _
    omega
  have HTe : Hid ((expS 20 e).length ≤ 1000000000000) := by
    have h1 := expS_len 20 e u hu2
    show _ ≤ _
    omega
  have HX3 := Lib.hid (HX.out.keep HB.out)
  have HY3 := Lib.hid (HY.out.keep HB.out)
  have HE3 := Lib.hid (HE.out.keep HB.out)
  have HC1 := Lib.hid (fun (W : World) (hb : Below w3.heap.size w3 W) => copyRule_any d1 x ⟨A, an, ac⟩ ⟨B, bn, bc⟩ W (HX3.out.keep hb) HSx.out)
  have HC2 := Lib.hid (fun (W : World) (hb : Below w3.heap.size w3 W) => copyLit_any d2 y ⟨A2, n2, c2⟩ ⟨P2, pn, pc⟩ ⟨Q2, qn, qc⟩ W (HY3.out.keep hb) HSy.out)
  have HC3 := Lib.hid (fun (W : World) (hb : Below w3.heap.size w3 W) => copyExp_any d3 e E en ec W (HE3.out.keep hb).kids HSe.out HE3.out.fop HE3.out.fx HE3.out.fv)
  have HAp := Lib.hid (spS_apart d1 d2 d3 x y e)
  have HFi := Lib.hid (spS_firm d1 d2 d3 x y e)
  clear hR1 hR2 hy1 hy2 hu1 hu2 HR1 HR2 HX HY HE HSx HSy HSe
  go_wp2_with fail
  refine drawnJ3 mixed 11 73 [30, 31, 32, 33, 34, 35, 7, 8, 9] (fun _ W => Below w3.heap.size w3 W) (spF (ruleC x ⟨A, an, ac⟩ ⟨B, bn, bc⟩) (litC y ⟨A2, n2, c2⟩ ⟨P2, pn, pc⟩ ⟨Q2, qn, qc⟩) (expC e E en ec)) (fun _ W W' => w3.heap.size ≤ W.heap.size → Below w3.heap.size W W') (boxJ 3 (spS d1 d2 d3 x y e) w3.heap.size) rfl (by kernel_rfl) (by kernel_rfl) rfl
    (boxJ_nil _ (fun _ => rfl)) (fun j _ => below_drewN _ 1 _) (fun i j v W W' _ _ _ h _ => by unfold spF at h ⊢; exact h) (fun _ _ _ _ _ _ _ _ h h' => h.trans (h' h.size)) ?_ ?_
  · intro l i o2' fa W hJ hli hlw hi ho hd hsz hold hG _ hw
    have hr3 : fa.tmps[3]? = some (.pointer (some ⟨w.heap.size, 0, none⟩)) := hold 3 (by kernel_rfl)
    have hr4 : fa.tmps[4]? = some (.pointer (some ⟨w.heap.size + 1, 0, none⟩)) := hold 4 (by kernel_rfl)
    have hr5 : fa.tmps[5]? = some (.pointer (some ⟨w.heap.size + 2, 0, none⟩)) := hold 5 (by kernel_rfl)
    have hgX := (hG.block _ (Array.getElem?_eq_some_iff.1 HrX.out).1).trans HrX.out
    have hgY := (hG.block _ (Array.getElem?_eq_some_iff.1 HrY.out).1).trans HrY.out
    have hgE := (hG.block _ (Array.getElem?_eq_some_iff.1 HrE.out).1).trans HrE.out
    clear hold
    match i, hi, ho with
    | 0, _, ho =>
      injection ho with ho; subst ho
      exact wp_load_mid 41 (.tmp 3) rfl _ _ (eval_tmp hr3) (ruleC x ⟨A, an, ac⟩ ⟨B, bn, bc⟩) _ (range_row hgX) Tryz.underlying41 rfl (rule_size _ _ _) ⟨_, rfl, fun _ => Below.refl _ _, rfl, fun l' h1 h2 => boxJ_val hJ (three (by simp [spS]) (by simp [spS]) (by simp [spS])) (three (by simp [spS]) (by simp [spS]) (by simp [spS])) h1 h2⟩
    | 1, _, ho =>
      injection ho with ho; subst ho
      obtain ⟨v0, h0, e0'⟩ := hw 0 30 (by kernel_rfl)
      obtain rfl : v0 = _ := e0'
      refine op_call 30 _ rfl rfl #[.agg (ruleC x ⟨A, an, ac⟩ ⟨B, bn, bc⟩).toArray] (by simp [Act.eval, h0]) _ Tryz.func30 (by kernel_rfl) (by kernel_rfl) ((HC1.out W hG).mono ?_)
      rintro r w' ⟨p, q, rfl, hat, hb⟩
      exact ⟨_, rfl, _, rfl, fun h => hb.mono h, trivial, fun l' h1 h2 => boxJ_call HAp.out HFi.out hJ (show 0 < 3 by decide) (by rw [hsz]; exact (by decide : 31 < 73)) hli hb rfl ⟨p, q, rfl, hat⟩ h1 h2⟩
    | 2, _, ho =>
      injection ho with ho; subst ho
      exact wp_load_mid 35 (.tmp 4) rfl _ _ (eval_tmp hr4) (litC y ⟨A2, n2, c2⟩ ⟨P2, pn, pc⟩ ⟨Q2, qn, qc⟩) _ (range_row hgY) Tryz.underlying35 rfl (lit_size _ _ _ _) ⟨_, rfl, fun _ => Below.refl _ _, rfl, fun l' h1 h2 => boxJ_val hJ (three (by simp [spS]) (by simp [spS]) (by simp [spS])) (three (by simp [spS]) (by simp [spS]) (by simp [spS])) h1 h2⟩
    | 3, _, ho =>
      injection ho with ho; subst ho
      obtain ⟨v0, h0, e0'⟩ := hw 2 32 (by kernel_rfl)
      obtain rfl : v0 = _ := e0'
      refine op_call 18 _ rfl rfl #[.agg (litC y ⟨A2, n2, c2⟩ ⟨P2, pn, pc⟩ ⟨Q2, qn, qc⟩).toArray] (by simp [Act.eval, h0]) _ Tryz.func18 (by kernel_rfl) (by kernel_rfl) ((HC2.out W hG).mono ?_)
      rintro r w' ⟨a', p, q, rfl, hat, hb⟩
      exact ⟨_, rfl, _, rfl, fun h => hb.mono h, trivial, fun l' h1 h2 => boxJ_call HAp.out HFi.out hJ (show 1 < 3 by decide) (by rw [hsz]; exact (by decide : 33 < 73)) hli hb rfl ⟨a', p, q, rfl, hat⟩ h1 h2⟩
    | 4, _, ho =>
      injection ho with ho; subst ho
      exact wp_load_mid 33 (.tmp 5) rfl _ _ (eval_tmp hr5) (expC e E en ec) _ (range_row hgE) Tryz.underlying33 rfl (exp_size _ _ _ _) ⟨_, rfl, fun _ => Below.refl _ _, rfl, fun l' h1 h2 => boxJ_val hJ (three (by simp [spS]) (by simp [spS]) (by simp [spS])) (three (by simp [spS]) (by simp [spS]) (by simp [spS])) h1 h2⟩
    | 5, _, ho =>
      injection ho with ho; subst ho
      obtain ⟨v0, h0, e0'⟩ := hw 4 34 (by kernel_rfl)
      obtain rfl : v0 = _ := e0'
      refine op_call 31 _ rfl rfl #[.agg (expC e E en ec).toArray] (by simp [Act.eval, h0]) _ Tryz.func31 (by kernel_rfl) (by kernel_rfl) ((HC3.out W hG).mono ?_)
      rintro r w' ⟨A5, c5, rfl, hat, hb⟩
      exact ⟨_, rfl, _, rfl, fun h => hb.mono h, trivial, fun l' h1 h2 => boxJ_call HAp.out HFi.out hJ (show 2 < 3 by decide) (by rw [hsz]; exact (by decide : 35 < 73)) hli hb rfl ⟨A5, c5, rfl, hat⟩ h1 h2⟩
    | 6, _, ho =>
      injection ho with ho; subst ho
      exact op_alloc 75 rfl zrC.toArray 6 (by kernel_rfl) ⟨_, rfl, fun h => (belowA (Below.refl _ _) _).mono h, trivial, fun l' h1 h2 => boxJ_alloc HAp.out HFi.out hJ (show 0 < 3 by decide) (by rw [hsz]; exact (by decide : 7 < 73)) hG.size hli h1 h2⟩
    | 7, _, ho =>
      injection ho with ho; subst ho
      exact op_alloc 51 rfl zlC.toArray 17 (by kernel_rfl) ⟨_, rfl, fun h => (belowA (Below.refl _ _) _).mono h, trivial, fun l' h1 h2 => boxJ_alloc HAp.out HFi.out hJ (show 1 < 3 by decide) (by rw [hsz]; exact (by decide : 8 < 73)) hG.size hli h1 h2⟩
    | 8, _, ho =>
      injection ho with ho; subst ho
      exact op_alloc 49 rfl zeC.toArray 6 (by kernel_rfl) ⟨_, rfl, fun h => (belowA (Below.refl _ _) _).mono h, trivial, fun l' h1 h2 => boxJ_alloc HAp.out HFi.out hJ (show 2 < 3 by decide) (by rw [hsz]; exact (by decide : 9 < 73)) hG.size hli h1 h2⟩
    | 9, _, ho =>
      have hl6 : l 6 = true := by injection ho with ho; subst ho; exact hlw ⟨6, .data⟩ (by simp) rfl
      have hl1 : l 1 = true := by injection ho with ho; subst ho; exact hlw ⟨1, .data⟩ (by simp) rfl
      obtain ⟨g, v, t1, t2, hBg, hv, hrow, ⟨_, _, a5, b5, hP, _⟩, hj⟩ := boxJ_store HAp.out HFi.out hJ (show 0 < 3 by decide) rfl hl6 hl1 hli
      injection ho with ho; subst ho
      exact wp_store_row 75 (.tmp 7) (.tmp 31) rfl g v (eval_tmp t1) (eval_tmp t2) 75 zrC.toArray hrow (by rw [show v.size = 6 from hv]; kernel_rfl) hv.symm (by rw [hP]; simp [Value.oneCell']) ⟨undef, rfl, fun _ => below_set (Below.refl _ _) hBg _, trivial, fun l' h1 h2 => hj undef l' h1 h2⟩
    | 10, _, ho =>
      have hl6 : l 7 = true := by injection ho with ho; subst ho; exact hlw ⟨7, .data⟩ (by simp) rfl
      have hl1 : l 3 = true := by injection ho with ho; subst ho; exact hlw ⟨3, .data⟩ (by simp) rfl
      obtain ⟨g, v, t1, t2, hBg, hv, hrow, ⟨_, _, a5, b5, c5, hP, _⟩, hj⟩ := boxJ_store HAp.out HFi.out hJ (show 1 < 3 by decide) rfl hl6 hl1 hli
      injection ho with ho; subst ho
      exact wp_store_row 51 (.tmp 8) (.tmp 33) rfl g v (eval_tmp t1) (eval_tmp t2) 51 zlC.toArray hrow (by rw [show v.size = 17 from hv]; kernel_rfl) hv.symm (by rw [hP]; simp [Value.oneCell']) ⟨undef, rfl, fun _ => below_set (Below.refl _ _) hBg _, trivial, fun l' h1 h2 => hj undef l' h1 h2⟩
    | n + 11, hi, _ => omega
  · intro l o2' u W tt hJ ht hlL ho hG hw
    obtain ⟨g, lo, hi, v, h1, h2, h3, h4, h5⟩ := hJ
    obtain ⟨p0, q0, r0, s0⟩ := h1 0 (by decide) (hlL 6 (by decide))
    obtain ⟨p1, q1, r1, s1⟩ := h1 1 (by decide) (hlL 7 (by decide))
    obtain ⟨p2, q2, r2, s2⟩ := h1 2 (by decide) (hlL 8 (by decide))
    obtain ⟨t0, u0, w0, ⟨A5, n5, c5⟩, ⟨B5, m5, e5⟩, z0, k0⟩ := h3 0 (by decide) (hlL 1 (by decide))
    obtain ⟨t1, u1, w1', ⟨A6, n6, c6⟩, ⟨P6, p6, r6⟩, ⟨Q6, q6, s6⟩, z1, k1⟩ := h3 1 (by decide) (hlL 3 (by decide))
    obtain ⟨t2, u2, w2', A7, c7, z2, k2⟩ := h3 2 (by decide) (hlL 5 (by decide))
    have d02 := h2 0 (by decide) 2 (by decide) (by decide) (hlL 6 (by decide)) (hlL 8 (by decide))
    have d12 := h2 1 (by decide) 2 (by decide) (by decide) (hlL 7 (by decide)) (hlL 8 (by decide))
    have f0 := h4 0 (by decide) 2 (by decide) (hlL 1 (by decide)) (hlL 8 (by decide))
    have f1 := h4 1 (by decide) 2 (by decide) (hlL 3 (by decide)) (hlL 8 (by decide))
    have f2 := h4 2 (by decide) 2 (by decide) (hlL 5 (by decide)) (hlL 8 (by decide))
    have s0' : W.heap[g 0]? = some (.cells (ruleC x ⟨A5, n5, c5⟩ ⟨B5, m5, e5⟩).toArray 75 (0, 0)) := by rw [← z0]; simpa [spS, hlL 9 (by decide)] using s0
    have s1' : W.heap[g 1]? = some (.cells (litC y ⟨A6, n6, c6⟩ ⟨P6, p6, r6⟩ ⟨Q6, q6, s6⟩).toArray 51 (0, 0)) := by rw [← z1]; simpa [spS, hlL 10 (by decide)] using s1
    have s2' : W.heap[g 2]? = some (.cells zeC.toArray 49 (0, 0)) := by simpa [spS] using s2
    have m7 : u 7 = .pointer (some ⟨g 0, 0, none⟩) := Option.some.inj ((ht 7 (by decide) (by decide)).symm.trans p0)
    have m8 : u 8 = .pointer (some ⟨g 1, 0, none⟩) := Option.some.inj ((ht 8 (by decide) (by decide)).symm.trans p1)
    have m9 : u 9 = .pointer (some ⟨g 2, 0, none⟩) := Option.some.inj ((ht 9 (by decide) (by decide)).symm.trans p2)
    have m35 : u 35 = .agg (expC e A7 e.kids.length c7).toArray := (Option.some.inj ((ht 35 (by decide) (by decide)).symm.trans t2)).trans (by rw [z2])
    have j0 : Hid (RuleAt d1 (W.setRow (g 2) (expC e A7 e.kids.length c7).toArray) (W.setRow (g 2) (expC e A7 e.kids.length c7).toArray).heap.size x ⟨A5, n5, c5⟩ ⟨B5, m5, e5⟩) := (k0.mono' (Nat.le_refl _) (kept_slab (fun b hb1 hb2 => setRow_ne (show b ≠ g 2 from fun e => f0 (by rw [← e]; exact ⟨hb1, hb2⟩))))).mono' (by rw [setRow_size]; exact u0) (kept_up _ _ _)
    have j1 : Hid (LitAt d2 (W.setRow (g 2) (expC e A7 e.kids.length c7).toArray) (W.setRow (g 2) (expC e A7 e.kids.length c7).toArray).heap.size y ⟨A6, n6, c6⟩ ⟨P6, p6, r6⟩ ⟨Q6, q6, s6⟩) := (k1.mono' (Nat.le_refl _) (kept_slab (fun b hb1 hb2 => setRow_ne (show b ≠ g 2 from fun e => f1 (by rw [← e]; exact ⟨hb1, hb2⟩))))).mono' (by rw [setRow_size]; exact u1) (kept_up _ _ _)
    have j2 : Hid (SliceIs (Enc.exp d3) (W.setRow (g 2) (expC e A7 e.kids.length c7).toArray) (W.setRow (g 2) (expC e A7 e.kids.length c7).toArray).heap.size A7 e.kids.length c7 e.kids) := (k2.mono' (Nat.le_refl _) (kept_slab (fun b hb1 hb2 => setRow_ne (show b ≠ g 2 from fun e => f2 (by rw [← e]; exact ⟨hb1, hb2⟩))))).mono' (by rw [setRow_size]; exact u2) (kept_up _ _ _)
    have rA := Lib.hid ((setRow_ne (cs' := (expC e A7 e.kids.length c7).toArray) d02).trans s0')
    have rB := Lib.hid ((setRow_ne (cs' := (expC e A7 e.kids.length c7).toArray) d12).trans s1')
    have rC := Lib.hid (setRow_at (cs' := (expC e A7 e.kids.length c7).toArray) s2')
    have HBW := Lib.hid (below_set hG q2 (expC e A7 e.kids.length c7).toArray)
    clear h1 h2 h3 h4 h5 p0 q0 r0 s0 p1 q1 r1 s1 p2 q2 r2 s2 t0 u0 w0 z0 k0 t1 u1 w1' z1 k1 t2 u2 w2' z2 k2 d02 d12 f0 f1 f2 s0' s1' ht hlL hw hG HC1 HC2 HC3 HAp HFi
    generalize g 0 = ga at *
    generalize g 1 = gb at *
    generalize g 2 = gc at *
    clear lo hi v g
    injection ho with ho; subst ho
    simp only [List.foldl_cons, List.foldl_nil, Act.put, List.setIfInBounds_toArray, List.set_cons_zero, List.set_cons_succ]
    rw [m7, m8, m9, m35]
    refine wp_store_row 49 (.tmp 9) (.tmp 35) rfl gc (expC e A7 e.kids.length c7).toArray rfl rfl 49 zeC.toArray s2' (by kernel_rfl) rfl (by simp [Value.oneCell']) ?_
    clear s2' m7 m8 m9 m35
    generalize W.setRow _ _ = W2 at *
    simp only [Act.put]
    have HBl := Lib.hid (below_next HB.out HBW.out)
    obtain ⟨s1, hs1⟩ : ∃ s1 : ByteArray, Hid (s1 = if rightRule x = true then bytes (ruleS x) else ⟨#[]⟩) := ⟨_, rfl⟩
    obtain ⟨m1, hm1⟩ : ∃ m1 : Value, Hid (m1 = if rightRule x = true then Value.nilIface else .iface 66 (.int .i64 2)) := ⟨_, rfl⟩
    obtain ⟨s2, hs2⟩ : ∃ s2 : ByteArray, Hid (s2 = if rightLit y = true then bytes (litS y) else ⟨#[]⟩) := ⟨_, rfl⟩
    obtain ⟨m2, hm2⟩ : ∃ m2 : Value, Hid (m2 = if rightLit y = true then Value.nilIface else .iface 66 (.int .i64 2)) := ⟨_, rfl⟩
    obtain ⟨s3, hs3⟩ : ∃ s3 : ByteArray, Hid (s3 = if rightE 20 e = true then bytes (expS 20 e) else ⟨#[]⟩) := ⟨_, rfl⟩
    obtain ⟨m3, hm3⟩ : ∃ m3 : Value, Hid (m3 = if rightE 20 e = true then Value.nilIface else .iface 66 (.int .i64 2)) := ⟨_, rfl⟩
    have D1 : Hid (∀ V, Below W2.heap.size W2 V → Calls Tryz.prog 32 #[.agg (ruleC x ⟨A, an, ac⟩ ⟨B, bn, bc⟩).toArray] V (fun e w' => e = .returned (.tuple #[.string s1, m1]) ∧ Below V.heap.size V w')) := fun V hb => by
      rw [hs1.out, hm1.out]; exact topRule_any d1 x A an ac B bn bc V ((HX3.out.keep HBW.out).keep hb) (HL.out _ (below_next HBl.out hb)) (HS.out _ (below_next HBl.out hb)) (fun _ => HTx.out)
    have D2 : Hid (∀ V, Below W2.heap.size W2 V → Calls Tryz.prog 33 #[.agg (litC y ⟨A2, n2, c2⟩ ⟨P2, pn, pc⟩ ⟨Q2, qn, qc⟩).toArray] V (fun e w' => e = .returned (.tuple #[.string s2, m2]) ∧ Below V.heap.size V w')) := fun V hb => by
      rw [hs2.out, hm2.out]; exact topLiteral_any d2 y A2 n2 c2 P2 pn pc Q2 qn qc V ((HY3.out.keep HBW.out).keep hb) (HL.out _ (below_next HBl.out hb)) (HS.out _ (below_next HBl.out hb)) (fun _ => HTy.out)
    have D3 : Hid (∀ V, Below W2.heap.size W2 V → Calls Tryz.prog 34 #[.agg (expC e E en ec).toArray] V (fun e w' => e = .returned (.tuple #[.string s3, m3]) ∧ Below V.heap.size V w')) := fun V hb => by
      rw [hs3.out, hm3.out]; exact topExp_any d3 e E en ec V ((HE3.out.keep HBW.out).keep hb).kids HE3.out.fx HE3.out.fv (HL.out _ (below_next HBl.out hb)) (HS.out _ (below_next HBl.out hb)) (fun _ => HTe.out)
    have RA : Hid (∀ V, Below W2.heap.size W2 V → V.heap[ga]? = some (.cells (ruleC x ⟨A5, n5, c5⟩ ⟨B5, m5, e5⟩).toArray 75 (0, 0))) := fun V hb => (hb.block _ (Array.getElem?_eq_some_iff.1 rA.out).1).trans rA.out
    have RB : Hid (∀ V, Below W2.heap.size W2 V → V.heap[gb]? = some (.cells (litC y ⟨A6, n6, c6⟩ ⟨P6, p6, r6⟩ ⟨Q6, q6, s6⟩).toArray 51 (0, 0))) := fun V hb => (hb.block _ (Array.getElem?_eq_some_iff.1 rB.out).1).trans rB.out
    have RC : Hid (∀ V, Below W2.heap.size W2 V → V.heap[gc]? = some (.cells (expC e A7 e.kids.length c7).toArray 49 (0, 0))) := fun V hb => (hb.block _ (Array.getElem?_eq_some_iff.1 rC.out).1).trans rC.out
    have RX : Hid (∀ V, Below W2.heap.size W2 V → V.heap[w.heap.size]? = some (.cells (ruleC x ⟨A, an, ac⟩ ⟨B, bn, bc⟩).toArray 41 (0, 0))) := fun V hb => ((below_next HBW.out hb).block _ (Array.getElem?_eq_some_iff.1 HrX.out).1).trans HrX.out
    have RY : Hid (∀ V, Below W2.heap.size W2 V → V.heap[w.heap.size + 1]? = some (.cells (litC y ⟨A2, n2, c2⟩ ⟨P2, pn, pc⟩ ⟨Q2, qn, qc⟩).toArray 35 (0, 0))) := fun V hb => ((below_next HBW.out hb).block _ (Array.getElem?_eq_some_iff.1 HrY.out).1).trans HrY.out
    have RE : Hid (∀ V, Below W2.heap.size W2 V → V.heap[w.heap.size + 2]? = some (.cells (expC e E en ec).toArray 33 (0, 0))) := fun V hb => ((below_next HBW.out hb).block _ (Array.getElem?_eq_some_iff.1 HrE.out).1).trans HrE.out
    have G1 : Hid (∀ V, Below W2.heap.size W2 V → Calls Tryz.prog 36 #[.agg (ruleC x ⟨A5, n5, c5⟩ ⟨B5, m5, e5⟩).toArray] V (RetBool (rightRule x) V)) := fun V hb => refRightRule_any d1 x _ _ V (j0.out.keep hb)
    have G2 : Hid (∀ V, Below W2.heap.size W2 V → Calls Tryz.prog 39 #[.agg (litC y ⟨A6, n6, c6⟩ ⟨P6, p6, r6⟩ ⟨Q6, q6, s6⟩).toArray] V (RetBool (rightLit y) V)) := fun V hb => refRightLit_any d2 y _ _ _ V (j1.out.keep hb)
    have G3 : Hid (∀ V, Below W2.heap.size W2 V → Calls Tryz.prog 42 #[.agg (expC e A7 e.kids.length c7).toArray] V (RetBool (rightE 20 e) V)) := fun V hb => refRightExp_any e A7 _ c7 d3 V (j2.out.keep hb) HE3.out.fv
    have O1 : Hid (∀ V, Below W2.heap.size W2 V → Calls Tryz.prog 35 #[.string s1, m1, .bool (rightRule x), .func (.func 37) #[] #[.pointer (some ⟨ga, 0, none⟩)]] V (RetBool true V)) := fun V hb => by
      rw [hs1.out, hm1.out]; exact oneRule_any _ _ _ V (fun hr V' hb' => cloRule_any d1 x A5 n5 c5 B5 m5 e5 ga V' (j0.out.keep (below_next hb hb')) hr HTx.out (RA.out V' (below_next hb hb')))
    have O2 : Hid (∀ V, Below W2.heap.size W2 V → Calls Tryz.prog 35 #[.string s2, m2, .bool (rightLit y), .func (.func 40) #[] #[.pointer (some ⟨gb, 0, none⟩)]] V (RetBool true V)) := fun V hb => by
      rw [hs2.out, hm2.out]; exact oneLiteral_any _ _ _ V (fun hr V' hb' => cloLiteral_any d2 y A6 n6 c6 P6 p6 r6 Q6 q6 s6 gb V' (j1.out.keep (below_next hb hb')) hr HTy.out (RB.out V' (below_next hb hb')))
    have O3 : Hid (∀ V, Below W2.heap.size W2 V → Calls Tryz.prog 35 #[.string s3, m3, .bool (rightE 20 e), .func (.func 43) #[] #[.pointer (some ⟨gc, 0, none⟩)]] V (RetBool true V)) := fun V hb => by
      rw [hs3.out, hm3.out]; exact oneExp_any _ _ _ V (fun hr V' hb' => cloExp_any d3 e A7 e.kids.length c7 gc V' (j2.out.keep (below_next hb hb')) HE3.out.fx HE3.out.fv hr HTe.out (RC.out V' (below_next hb hb')))
    have hkl : e.kids.length ≤ 140737488351232 := j2.out.bound
    clear j0 j1 j2 rA rB rC HBW HB HrX HrY HrE HL HS HTx HTy HTe HX3 HY3 HE3 hs1 hm1 hs2 hm2 hs3 hm3
    generalize rightRule x = b1 at *
    generalize rightLit y = b2 at *
    generalize rightE 20 e = b3 at *
    have HB0 := Lib.hid (Below.refl W2.heap.size W2)
    obtain ⟨a0, a1, a2, a3, a4, a5⟩ := facts6 (RX.out _ HB0.out)
    go_wp2_with fail
    refine (D1.out _ HB0.out).mono ?_
    rintro r wa ⟨rfl, hq⟩
    have HB1 := Lib.hid (below_next HB0.out hq)
    clear hq a0 a1 a2 a3 a4 a5 D1 HB0
    have HRy := Lib.hid (range_row (RY.out _ HB1.out))
    go_wp2_with (refine wpList_load_mid rfl 35 (.tmp 4) rfl (w.heap.size + 1) 0 rfl (litC y ⟨A2, n2, c2⟩ ⟨P2, pn, pc⟩ ⟨Q2, qn, qc⟩) _ HRy.out Tryz.underlying35 rfl (lit_size _ _ _ _) ?_)
    refine (D2.out _ HB1.out).mono ?_
    rintro r wb2 ⟨rfl, hq⟩
    have HB2 := Lib.hid (below_next HB1.out hq)
    clear hq D2 HB1 HRy
    obtain ⟨a0, a1, a2, a3, a4, a5⟩ := facts6 (RE.out _ HB2.out)
    go_wp2_with fail
    refine (D3.out _ HB2.out).mono ?_
    rintro r wc2 ⟨rfl, hq⟩
    have HB3 := Lib.hid (below_next HB2.out hq)
    clear hq a0 a1 a2 a3 a4 a5 D3 HB2
    obtain ⟨a0, a1, a2, a3, a4, a5⟩ := facts6 (RA.out _ HB3.out)
    go_wp2_with fail
    refine (G1.out _ HB3.out).mono ?_
    rintro r wd ⟨rfl, hq⟩
    have HB4 := Lib.hid (below_next HB3.out hq)
    clear hq a0 a1 a2 a3 a4 a5 G1 HB3
    go_wp2_with fail
    refine (O1.out _ HB4.out).mono ?_
    rintro r we ⟨rfl, hq⟩
    have HB5 := Lib.hid (below_next HB4.out hq)
    clear hq O1 HB4
    have HRy := Lib.hid (range_row (RB.out _ HB5.out))
    obtain ⟨g0, g1, g2, g3, g4, g5, g6, g7, g8, g9, g10, g11, g12, g13, g14, g15, g16⟩ := facts17 (RB.out _ HB5.out)
    go_wp2_with fail
    refine (G2.out _ HB5.out).mono ?_
    rintro r wf ⟨rfl, hq⟩
    have HB6 := Lib.hid (below_next HB5.out hq)
    clear hq g0 g1 g2 g3 g4 g5 g6 g7 g8 g9 g10 g11 g12 g13 g14 g15 g16 G2 HB5 HRy
    go_wp2_with fail
    refine (O2.out _ HB6.out).mono ?_
    rintro r wg ⟨rfl, hq⟩
    have HB7 := Lib.hid (below_next HB6.out hq)
    clear hq O2 HB6
    obtain ⟨a0, a1, a2, a3, a4, a5⟩ := facts6 (RC.out _ HB7.out)
    go_wp2_with fail
    refine (G3.out _ HB7.out).mono ?_
    rintro r wh ⟨rfl, hq⟩
    have HB8 := Lib.hid (below_next HB7.out hq)
    clear hq a0 a1 a2 a3 a4 a5 G3 HB7
    go_wp2_with fail
    refine (O3.out _ HB8.out).mono ?_
    rintro r wi ⟨rfl, hq⟩
    have HB9 := Lib.hid (below_next HB8.out hq)
    clear hq O3 HB8
    go_wp2_with fail
    go_ret
    exact ⟨rfl, below_next HBl.out HB9.out⟩
end Go.Proofs.YtgabkmibfhmkmaaGreatDoor

namespace Go.Proofs.YtgabkmibfhmkmaaGreatDoor
open Go.ChangeShapes Go.WideShapes Go.ChangeAt Go.RowKit
set_option linter.unusedVariables false
theorem params : Tryz.f4.params = #[41, 35, 33] := by kernel_rfl
set_option maxRecDepth 100000 in
theorem lifted (os : Os) (started : os.Started) (H : Type) (enc : TypeId × Value → H) :
    ReturnsInHanded {} Tryz.checked os 4 .any (fun w args => (Rows.showPartsSpec.pre enc Tryz.prog Tryz.f4 Rows.showPartsRow.domain false w args ∧ laidMet Tryz.prog laidS w) ∧ sizedMet enc Tryz.prog Tryz.f4 (OpenSpec.ofChange Rows.showPartsSpec) false w args)
      (Rows.showPartsSpec.post enc Tryz.prog Tryz.f4 false true false false) := by
  refine returnsInHanded_of_change_and (C := Tryz.checked) (X := fun w _ => laidMet Tryz.prog laidS w) (fun _ _ _ hh h => h.of_heap hh) own started (by kernel_rfl) Tryz.func4
    (ChangeSpec.witness_at (enc := enc) (C := Tryz.checked) (os := os) (X := fun w _ => laidMet Tryz.prog laidS w) false (laidWorldS os) #[.agg #[.string ⟨#[]⟩, .slice none 0 0, .int .i64 0, .int .i64 0, .slice none 0 0, .int .i64 0], .agg #[.int .i64 0, .string ⟨#[]⟩, .slice none 0 0, .int .i64 0, .int .i64 0, .string ⟨#[]⟩, .int .i64 0, .int .i64 0, .string ⟨#[]⟩, .slice none 0 0, .int .i64 0, .string ⟨#[]⟩, .int .i64 0, .int .i64 0, .string ⟨#[]⟩, .slice none 0 0, .int .i64 0], .agg #[.int .i64 0, .string ⟨#[]⟩, .int .i64 0, .int .i64 0, .string ⟨#[]⟩, .slice none 0 0]] 8 rfl (by kernel_rfl) (by kernel_rfl) (by kernel_rfl) (by kernel_rfl) (by kernel_rfl) (laidWorldS_met os _)) ?_
  intro W base args ds gs before hval0 hW hcnd hsz0 hL _
  have hval : ∀ (j : Nat) t v, Tryz.f4.params[j]? = some t → args[j]? = some v → Value.okWide Tryz.prog W .any base t v := hval0
  have hW' := hW
  obtain ⟨p, q, hA0, hV, rfl, hfz, hnd⟩ := hW
  have hA : DataW.TrodAll enc Tryz.prog W 0 (fun _ => true) true Tryz.f4.params.toList args.toList ds p := hA0
  have hsz : (DataW.weightsEach Tryz.prog (Tryz.f4.params.toList ++ Rows.showPartsSpec.plain.varTypes Tryz.prog) (ds ++ gs)).all (· ≤ reachBytes) = true := hsz0
  rw [params] at hA hval hsz
  obtain ⟨v0, vs0, d0, ds0, p0, q0, hargs, rfl, rfl, h0, r0⟩ := trodAll_cons hA
  obtain ⟨v1, vs1, d1, ds1, p1, q1, rfl, rfl, rfl, h1, r1⟩ := trodAll_cons r0
  obtain ⟨v2, vs2, d2, ds2, p2, q2, rfl, rfl, rfl, h2, r2⟩ := trodAll_cons r1
  obtain ⟨rfl, rfl, rfl⟩ := trodAll_nil r2
  obtain rfl : args = #[v0, v1, v2] := by cases args; simp_all
  obtain ⟨rfl, rfl⟩ := trodVars_none hV
  have hwt : ∀ (j : Nat) (t : TypeId) (d : DataW H), [41, 35, 33][j]? = some t → [d0, d1, d2][j]? = some d → ∀ n ∈ d.weights Tryz.prog t, n ≤ reachBytes := fun j t d ht hd n hn => by
    have := List.all_eq_true.1 hsz n (DataW.weights_mem_each (j := j) (by rw [List.getElem?_append_left (by simpa using (List.getElem?_eq_some_iff.1 ht).1)]; exact ht) (by rw [List.getElem?_append_left (by simpa using (List.getElem?_eq_some_iff.1 hd).1)]; exact hd) n hn)
    simpa using this
  have lt0 : ∀ x ∈ p0, x.block < W.heap.size := by obtain ⟨m, hm⟩ := h0; exact DataW.trod_lt m _ _ _ hm
  have lt1 : ∀ x ∈ p1, x.block < W.heap.size := by obtain ⟨m, hm⟩ := h1; exact DataW.trod_lt m _ _ _ hm
  have lt2 : ∀ x ∈ p2, x.block < W.heap.size := by obtain ⟨m, hm⟩ := h2; exact DataW.trod_lt m _ _ _ hm
  obtain ⟨N0, a, cs0, rfl, a0, b0, rfl, k0⟩ := open_encB u_rule o_rule (hval 0 41 v0 rfl rfl) h0 (hwt 0 _ _ rfl rfl)
  obtain ⟨N1, b, cs1, rfl, a1, p1', q1', rfl, k1⟩ := open_encB u_lit o_lit (hval 1 35 v1 rfl rfl) h1 (hwt 1 _ _ rfl rfl)
  obtain ⟨N2, c, cs2, rfl, A2, n2, c2, rfl, f2, x2, v2, k2⟩ := open_encB u_exp o_exp (hval 2 33 v2 rfl rfl) h2 (hwt 2 _ _ rfl rfl)
  clear hA0 hval0
  refine (showParts_walk N0 N1 N2 a a0.A a0.n a0.c b0.A b0.n b0.c b a1.A a1.n a1.c p1'.A p1'.n p1'.c q1'.A q1'.n q1'.c c A2 n2 c2 W k0 k1 ⟨f2, x2, v2, k2⟩ (lexW_of_laidS hL) (showW_of_laidS hL)).mono fun e W' ⟨he, bel⟩ => ?_
  subst he
  exact ⟨_, rfl, _, _, _, [], _, [], hW', trodAll_mk1 (shut_bool u_bool _),
    (trodAll_cons_mk (Below.trod laidOut (by kernel_rfl) (of_decide_eq_true (by kernel_rfl)) h0 bel lt0)
      (trodAll_cons_mk (Below.trod laidOut (by kernel_rfl) (of_decide_eq_true (by kernel_rfl)) h1 bel lt1)
      (trodAll_cons_mk (Below.trod laidOut (by kernel_rfl) (of_decide_eq_true (by kernel_rfl)) h2 bel lt2)
      trodAll_mk0))), rfl, bel.frame _, fun h => by cases h⟩
end Go.Proofs.YtgabkmibfhmkmaaGreatDoor

namespace Go.Proofs.YtgabkmibfhmkmaaGreatDoor
set_option maxHeartbeats 4000000 in
theorem closedF : joinedFacts Tryz.prog 4 Tryz.f4 Rows.showPartsSpec Rows.showPartsRow = true := by
  unfold joinedFacts
  simp only [Bool.and_eq_true]
  repeat' (with_reducible refine And.intro ?_ ?_)
  all_goals (as_aux_lemma => kernel_rfl)
end Go.Proofs.YtgabkmibfhmkmaaGreatDoor
