/- My own texts TyRd, as far as this claim needs them. -/
import Derived.Test.YtaeedepojpablaaGreatDoorZq31
import Derived.Test.YtaeedepojpablaaGreatDoorZqb10
import Derived.Test.YtaeedepojpablaaGreatDoorZqb8
set_option linter.unusedVariables false
set_option linter.unusedSimpArgs false
set_option maxRecDepth 1000000
set_option maxHeartbeats 16000000
namespace Go.Proofs.YtaeedepojpablaaGreatDoor
open Go.RowKit
theorem rrule_infoY : (Tryz.prog.info? 65).map (fun i => (i.zero, i.size)) = some (some (.agg zRuleY.toArray), zRuleY.toArray.size) := by kernel_rfl
theorem rrule_sizeY (x : GRule) (a b : Hd) : (Tryz.prog.info? 65).map (·.size) = some (ruleC x a b).length := by
 show _ = some 6; kernel_rfl
theorem refTyCheck_any (d : Nat) (x : GProg) (aA : Option Addr) (an ac : Nat) (bA : Option Addr) (bn bc : Nat) (w : World) (hx : ProgAt d w w.heap.size x ⟨aA, an, ac⟩ ⟨bA, bn, bc⟩) :
 Calls Tryz.prog 11 #[.agg (progC ⟨aA, an, ac⟩ ⟨bA, bn, bc⟩).toArray] w (AtPost (tyErr x) w) := by
 have mixed : Tryz.prog.follows .mixedOrders = true := by kernel_rfl
 have hbn := hx.rules.bound; have han := hx.decls.bound; have Hbl : Hid (x.rules.length = bn) := hx.rules.1; have Hal : Hid (x.decls.length = an) := hx.decls.1; obtain ⟨V, hV⟩ : ∃ V, V = w.alloc (.cells #[.slice aA an ac, .slice bA bn bc] 34) := ⟨_, rfl⟩
 have HVe := hZ9 hV.symm; have hg : V.heap[w.heap.size]? = some (.cells #[.slice aA an ac, .slice bA bn bc] 34 (0, 0)) := by rw [hV]; exact heapNew rfl
 have hbV : Below w.heap.size w V := by rw [hV]; exact belowA (Below.refl _ _) _
 have hgl : w.heap.size < V.heap.size := (glt hg)
 have HbV := hZ9 hbV; obtain ⟨c0, c1⟩ := facts2 hg; have HX := hZ9 (hx.keep hbV); have HF := hZ9 (refFormed_any d x ⟨aA, an, ac⟩ ⟨bA, bn, bc⟩ V HX.out); have HC : Hid (∀ W, Below V.heap.size V W → W.cell? ⟨w.heap.size, 0, none⟩ = some (.slice aA an ac) ∧ W.cell? ⟨w.heap.size, 1, none⟩ = some (.slice bA bn bc)) := fun W hW => facts2 ((hW.block _ hgl).trans hg)
 obtain ⟨P, HP⟩ : ∃ P : Ending → World → Prop, Hid (P = AtPost (tyErr x) w) := ⟨_, rfl⟩
 rw [← HP.out]; clear hx hV hg hbV; go_enter Tryz.func11, Tryz.ntmps11
 go_wp2_with (rw [HVe.out])
 refine HF.out.mono ?_; rintro e w1 ⟨rfl, hb1⟩; have HB1 := hZ9 hb1; clear hb1 HF
 have HEnd : Hid (∀ W r, tyErr x = r → Below V.heap.size V W → P (.returned (.tuple #[.int .i64 r.1, .int .i64 r.2])) W) := fun W r h1 h2 => by
  rw [HP.out]; exact ⟨by rw [h1], HbV.out.trans (h2.mono HbV.out.size)⟩
 cases hfo : formedB x with
 | false =>
   have HPP := hZ9 (HEnd.out w1 (0, 2) (by unfold tyErr; rw [hfo]; rfl) HB1.out); clear hfo HEnd; go_wp2_with fail
   first | exact HPP.out | (go_ret2; exact HPP.out)
 | true =>
 have HFr := hZ9 hfo; have HR : Hid (tyErr x = match dupErr x.decls (x.decls.drop 0) 0 with | some at_ => (at_, 14) | none => rulesErr x.decls x.rules) := by show _ = _; unfold tyErr; rw [hfo, List.drop_zero]; rfl
 clear hfo c0 c1; go_wp2_with fail
 go_loopw [4] (fun i wr => ∃ k : Nat, k ≤ an ∧ i = .int .i64 (k : Int) ∧ Hid (tyErr x = match dupErr x.decls (x.decls.drop k) k with | some at_ => (at_, 14) | none => rulesErr x.decls x.rules) ∧ Hid (Below V.heap.size V wr)) (fun i _ => an - (intOf i).toNat)
 case atStart => exact ⟨0, by omega, rfl, HR, HB1.out⟩
 case round =>
  clear HR HB1; obtain ⟨k, hk, rfl, HR, HB⟩ := hrel; have i0 : (0 : Int) ≤ (k : Int) := by omega
  obtain ⟨q0, q1⟩ := HC.out wr HB.out; by_cases hlt : k < an
  ·have i1 : (k : Int) < (an : Int) := by omega
   have hXr := HX.out.keep HB.out; obtain ⟨db, dof, dd, da, haA, hdb, hdd, hdat, z0, -, z2⟩ := hXr.decls.decl_at hlt; dsimp only at haA; subst haA; have HCs : Hid (∀ W, Below wr.heap.size wr W → W.cell? ⟨w.heap.size, 0, none⟩ = some (.slice (some ⟨db, dof, none⟩) an ac) ∧ W.cell? ⟨w.heap.size, 1, none⟩ = some (.slice bA bn bc) ∧ W.cell? ⟨db, dof + k * 3, none⟩ = some (.string dd.rel) ∧ W.cell? ⟨db, dof + k * 3 + 2, none⟩ = some (.int .i64 dd.pos)) := fun W hW => ⟨below_cell hW q0, below_cell hW q1, below_cell hW z0, below_cell hW z2⟩
   obtain ⟨j, hj, hjk⟩ := idxD_self hdd.out; have hfk : idxI (idxD x.decls dd.rel) ≤ (k : Int) := by rw [hj]; simp only [idxI]; omega
   have HSt := hZ9 (dupErr_at hdd.out); obtain ⟨fr, Hfr⟩ : ∃ fr, Hid (idxI (idxD x.decls dd.rel) = fr) := ⟨_, rfl⟩
   have HI : Hid (∀ W, Below wr.heap.size wr W → Calls Tryz.prog 13 #[.agg #[.slice (some ⟨db, dof, none⟩) an ac, .slice bA bn bc], .string dd.rel] W (fun e w' => e = .returned (.int .i64 fr) ∧ Below W.heap.size W w')) := fun W hW => by
    rw [← Hfr.out]; exact tyRefIndex_any (some ⟨db, dof, none⟩) an ac (.slice bA bn bc) x.decls dd.rel W ((HX.out.keep (HB.out.trans (hW.mono HB.out.size))).decls)
   rw [Hfr.out] at HSt hfk; clear hXr hdat hdd z0 z2 hj hjk j q1; go_wp2_with fail
   clear q0; refine drawnS mixed _ (Below wr.heap.size wr) rfl (by kernel_rfl) rfl (Below.drew (Below.refl _ _)) ?_
   iterate 7
    apply seqS_op
    ·intro W hW; obtain ⟨k0, k1, k2, k3⟩ := HCs.out W hW; go_wp2_with fail
     exact ⟨rfl, rfl, fun d hd => by cases hd; simp only [List.getElem?_toArray, List.getElem?_cons_succ, List.getElem?_cons_zero]; rfl, hW⟩
    simp only [Act.put, List.setIfInBounds_toArray, List.set_cons_succ, List.set_cons_zero]
   apply seqS_op
   ·intro W hW; go_wp2_with fail
    refine (HI.out W hW).mono ?_; rintro e w1 ⟨rfl, hb1⟩; go_wp2_with fail
    exact ⟨rfl, rfl, fun d hd => by cases hd; simp only [List.getElem?_toArray, List.getElem?_cons_succ, List.getElem?_cons_zero]; rfl, hW.trans (hb1.mono hW.size)⟩
   simp only [Act.put, List.setIfInBounds_toArray, List.set_cons_succ, List.set_cons_zero]
   iterate 2
    apply seqS_op
    ·intro W hW; go_wp2_with fail
     exact ⟨rfl, rfl, fun d hd => by cases hd; simp only [List.getElem?_toArray, List.getElem?_cons_succ, List.getElem?_cons_zero]; rfl, hW⟩
    simp only [Act.put, List.setIfInBounds_toArray, List.set_cons_succ, List.set_cons_zero]
   apply seqS_end; intro W hW; obtain ⟨k0, k1, k2, k3⟩ := HCs.out W hW; have HBW : Hid (Below V.heap.size V W) := HB.out.trans (hW.mono HB.out.size); clear hW HCs HI Hfr; by_cases hfe : fr = (k : Int)
   ·have e1 : (fr != (k : Int)) = false := by simpa using hfe
    have HR2 : Hid (tyErr x = match dupErr x.decls (x.decls.drop (k + 1)) (k + 1) with | some at_ => (at_, 14) | none => rulesErr x.decls x.rules) := by show _ = _; rw [HR.out, HSt.out, if_neg (by omega)]
    clear hfe hfk HR HSt k0 k1 k2 k3; go_wp2_with fail
    go_roundw
    case rel => exact ⟨k + 1, by omega, by go_num, HR2, HBW⟩
    case measure => simp [intOf]; omega
   ·have e1 : (fr != (k : Int)) = true := by simpa using hfe
    have HE := hZ9 (HEnd.out W (dd.pos, 14) (by rw [HR.out, HSt.out, if_pos (by omega)]) HBW.out); clear hfe hfk HR HSt HEnd; go_wp2_with fail
    first | exact HE.out | (go_ret2; exact HE.out)
  ·have i1 : ¬ (k : Int) < (an : Int) := by omega
   have HR2 : Hid (tyErr x = rulesErr x.decls (x.rules.drop 0)) := by show _ = _; rw [HR.out, List.drop_of_length_le (by have := Hal.out; omega), List.drop_zero]; rfl
   have HBX := hZ9 HB.out; clear HR q1; go_wp2_with fail
   clear q0; go_loopw [5, 6, 7, 8, 9, 10] (fun i _ _ _ _ _ wr => ∃ k : Nat, k ≤ bn ∧ i = .int .i64 (k : Int) ∧ Hid (tyErr x = rulesErr x.decls (x.rules.drop k)) ∧ Hid (Below V.heap.size V wr)) (fun i _ _ _ _ _ _ => bn - (intOf i).toNat)
   case atStart => exact ⟨0, by omega, rfl, HR2, HBX⟩
   case round =>
    clear HR2 HB HBX; obtain ⟨k2, hk2, rfl, HR, HB⟩ := hrel; have j0 : (0 : Int) ≤ (k2 : Int) := by omega
    obtain ⟨-, q1⟩ := HC.out wr HB.out; by_cases hlt2 : k2 < bn
    ·have j1 : (k2 : Int) < (bn : Int) := by omega
     obtain ⟨rb, ro, y, cs, hbA, hrb, hy, ⟨a, m, rfl, hyA⟩, hcs⟩ := (HX.out.rules.keep HB.out).cells_at hlt2; dsimp only at hbA; subst hbA; obtain ⟨mA, mn, mc⟩ := m; obtain ⟨hA, hn, hc⟩ := a; have HCs : Hid (∀ j' v, (ruleC y ⟨hA, hn, hc⟩ ⟨mA, mn, mc⟩)[j']? = some v → wr.cell? ⟨rb, ro + k2 * 6 + j', none⟩ = some v) := hcs; obtain ⟨ub, Hub⟩ : ∃ ub, Hid (wr.heap.size = ub) := ⟨_, rfl⟩
     obtain ⟨U, hU⟩ : ∃ U, U = wr.alloc (.cells (ruleC y ⟨hA, hn, hc⟩ ⟨mA, mn, mc⟩).toArray 65) := ⟨_, rfl⟩
     have HUe := hZ9 hU.symm; have hbU : Below wr.heap.size wr U := by rw [hU]; exact belowA (Below.refl _ _) _
     have hrU : U.heap[ub]? = some (.cells (ruleC y ⟨hA, hn, hc⟩ ⟨mA, mn, mc⟩).toArray 65 (0, 0)) := by rw [hU]; exact heapNew Hub.out
     have hgU := (glt hrU)
     have hBU : Below V.heap.size V U := HB.out.trans (hbU.mono HB.out.size); have HBU := hZ9 hBU
     have HRc : Hid (∀ W, Below U.heap.size U W → (W.cell? ⟨w.heap.size, 0, none⟩ = some (.slice aA an ac) ∧ W.cell? ⟨w.heap.size, 1, none⟩ = some (.slice (some ⟨rb, ro, none⟩) bn bc)) ∧ W.cell? ⟨ub, 0, none⟩ = some (.string y.head.rel) ∧ W.cell? ⟨ub, 1, none⟩ = some (.slice hA hn hc) ∧ W.cell? ⟨ub, 2, none⟩ = some (.int .i64 y.agg) ∧ W.cell? ⟨ub, 3, none⟩ = some (.int .i64 y.col) ∧ W.cell? ⟨ub, 4, none⟩ = some (.slice mA mn mc) ∧ W.cell? ⟨ub, 5, none⟩ = some (.int .i64 y.pos)) := fun W hW =>
      ⟨HC.out W (hBU.trans (hW.mono hBU.size)), facts6 ((hW.block _ hgU).trans hrU)⟩
     have hry := (formed_rules HFr.out).2 y (List.mem_of_getElem? hy.out); have HDU := hZ9 ((HX.out.keep hBU).decls); have HyU := hZ9 (hyA.keep hbU); have HRB := hZ9 (right_body hry).2; have HKi := hZ9 (refKinds_any d aA an ac (.slice (some ⟨rb, ro, none⟩) bn bc) x.decls y ⟨hA, hn, hc⟩ ⟨mA, mn, mc⟩ U HDU.out HyU.out hry); have Hkm : Hid ((kindsR x.decls y).length ≤ 20000000) := Nat.le_trans kindsR_told.most (right_varsR hry); have Hml : Hid (y.body.length = mn) := hyA.body.1; have hmn : mn ≤ 8 := by rw [← Hml.out]; exact (right_body hry).1
     have HSt := hZ9 (rulesErr_at (ds := x.decls) hy.out); rw [ruleErrL_eq] at HSt; obtain ⟨l, Hl⟩ : ∃ l, Hid (kindsR x.decls y = l) := ⟨_, rfl⟩
     rw [Hl.out] at HKi Hkm HSt; obtain ⟨but, Hbut⟩ : ∃ but, Hid (colK y = but) := ⟨_, rfl⟩
     obtain ⟨he, Hhe⟩ : ∃ he, Hid (atomErr x.decls l y.head y.agg but = he) := ⟨_, rfl⟩
     have HRl : Hid (ruleErrL x.decls l y = if he ≠ 0 then (y.pos, he) else bodyErr x.decls l (y.body.drop 0)) := by
      show _ = _; unfold ruleErrL; rw [Hbut.out, Hhe.out, List.drop_zero]
     have HErr : Hid (∀ W r, ruleErrL x.decls l y = r → r.2 ≠ 0 → Below V.heap.size V W → P (.returned (.tuple #[.int .i64 r.1, .int .i64 r.2])) W) := fun W r h1 h2 h3 => HEnd.out W r (by rw [HR.out, HSt.out, h1, if_pos h2]) h3
     have HNext : Hid ((ruleErrL x.decls l y).2 = 0 → tyErr x = rulesErr x.decls (x.rules.drop (k2 + 1))) := fun h => by rw [HR.out, HSt.out, if_neg (fun q => q h)]
     obtain ⟨⟨u0, u1⟩, v0, v1, v2, v3, v4, v5⟩ := HRc.out U (Below.refl _ _); have HRU := hZ9 (row_cells hrU); clear hU hbU hrU hyA hcs hy hBU hry HR HSt
     go_wp2_with (first
      | rw [HUe.out]
      | rw [Hub.out]
      | refine wpList_load_at rb (ro + k2 * 6) (ruleC y ⟨hA, hn, hc⟩ ⟨mA, mn, mc⟩) _ HCs.out Tryz.underlying65 rfl (rrule_sizeY _ _ _) rfl rfl ?_
      | refine wpList_new rfl rfl 65 6 (.tmp 48) rfl rfl rfl rfl _ (ruleC y ⟨hA, hn, hc⟩ ⟨mA, mn, mc⟩).toArray rrule_infoY rfl (rule_oneY _ _ _) rfl rfl ?_
      | refine wpList_load_at ub 0 (ruleC y ⟨hA, hn, hc⟩ ⟨mA, mn, mc⟩) _ HRU.out Tryz.underlying65 rfl (rrule_sizeY _ _ _) rfl rfl ?_)
     refine HKi.out.mono ?_; rintro e w3 ⟨lA, lc, rfl, ho3, hb3⟩; have hl3 := ho3.is (by have := Hkm.out; omega); have HB3 : Hid (Below V.heap.size V w3) := HBU.out.trans (hb3.mono HBU.out.size); have Hb3 := hZ9 hb3; have HRc3 : Hid (∀ W, Below w3.heap.size w3 W → (W.cell? ⟨w.heap.size, 0, none⟩ = some (.slice aA an ac) ∧ W.cell? ⟨w.heap.size, 1, none⟩ = some (.slice (some ⟨rb, ro, none⟩) bn bc)) ∧ W.cell? ⟨ub, 0, none⟩ = some (.string y.head.rel) ∧ W.cell? ⟨ub, 1, none⟩ = some (.slice hA hn hc) ∧ W.cell? ⟨ub, 2, none⟩ = some (.int .i64 y.agg) ∧ W.cell? ⟨ub, 3, none⟩ = some (.int .i64 y.col) ∧ W.cell? ⟨ub, 4, none⟩ = some (.slice mA mn mc) ∧ W.cell? ⟨ub, 5, none⟩ = some (.int .i64 y.pos)) := fun W hW => HRc.out W (hb3.trans (hW.mono hb3.size))
     obtain ⟨ln, Hln⟩ : ∃ ln, Hid (l.length = ln) := ⟨_, rfl⟩
     rw [Hln.out] at hl3 ⊢; have HL3 := hZ9 hl3
     have HAb : Hid (∀ W (x' : GAtom) A n c agg col, Below w3.heap.size w3 W → SliceIs Enc.told U U.heap.size A n c x'.args → Calls Tryz.prog 31 #[.agg #[.slice aA an ac, .slice (some ⟨rb, ro, none⟩) bn bc], .slice lA ln lc, .agg #[.string x'.rel, .slice A n c], .int .i64 agg, .int .i64 col] W (IntPost (atomErr x.decls l x' agg col) W)) := fun W x' A n c agg col hW hx' =>
      refAtomBad_any aA an ac (.slice (some ⟨rb, ro, none⟩) bn bc) x.decls lA ln lc l x'.rel A n c x'.args agg col W ((HDU.out.keep Hb3.out).keep hW) ((hx'.keep Hb3.out).keep hW) (HL3.out.keep hW)
     have HAh : Hid (∀ W, Below w3.heap.size w3 W → Calls Tryz.prog 31 #[.agg #[.slice aA an ac, .slice (some ⟨rb, ro, none⟩) bn bc], .slice lA ln lc, .agg #[.string y.head.rel, .slice hA hn hc], .int .i64 y.agg, .int .i64 but] W (IntPost he W)) := fun W hW => by rw [← Hhe.out]; exact HAb.out W y.head hA hn hc y.agg but hW HyU.out.args
     have HCo : Hid (∀ W, Calls Tryz.prog 32 #[.agg (ruleC y ⟨hA, hn, hc⟩ ⟨mA, mn, mc⟩).toArray] W (fun r w' => r = .returned (.int .i64 but) ∧ w' = W.alloc (.cells (ruleC y ⟨hA, hn, hc⟩ ⟨mA, mn, mc⟩).toArray 65))) := fun W => by rw [← Hbut.out]; exact refColumn_any y ⟨hA, hn, hc⟩ ⟨mA, mn, mc⟩ W
     clear ho3 hb3 hl3 u0 u1 v0 v1 v2 v3 v4 v5 HKi Hhe Hbut; go_wp2_with fail
     refine drawnS mixed _ (Below w3.heap.size w3) rfl (by kernel_rfl) rfl (Below.drew (Below.refl _ _)) ?_
     iterate 7
      apply seqS_op
      ·intro W hW; obtain ⟨⟨k0, k1⟩, n0, n1, n2, n3, n4, n5⟩ := HRc3.out W hW; go_wp2_with fail
       exact ⟨rfl, rfl, fun d hd => by cases hd; simp only [List.getElem?_toArray, List.getElem?_cons_succ, List.getElem?_cons_zero]; rfl, hW⟩
      simp only [Act.put, List.setIfInBounds_toArray, List.set_cons_succ, List.set_cons_zero]
     apply seqS_op
     ·intro W hW; go_wp2_with fail
      refine (HCo.out W).mono ?_; rintro e w1 ⟨rfl, hw1⟩; have hb1 : Below W.heap.size W w1 := by rw [hw1]; exact belowA (Below.refl _ _) _
      clear hw1; go_wp2_with fail
      exact ⟨rfl, rfl, fun d hd => by cases hd; simp only [List.getElem?_toArray, List.getElem?_cons_succ, List.getElem?_cons_zero]; rfl, hW.trans (hb1.mono hW.size)⟩
     simp only [Act.put, List.setIfInBounds_toArray, List.set_cons_succ, List.set_cons_zero]; apply seqS_op
     ·intro W hW; go_wp2_with fail
      refine (HAh.out W hW).mono ?_; rintro e w1 ⟨rfl, hb1⟩; go_wp2_with fail
      exact ⟨rfl, rfl, fun d hd => by cases hd; simp only [List.getElem?_toArray, List.getElem?_cons_succ, List.getElem?_cons_zero]; rfl, hW.trans (hb1.mono hW.size)⟩
     simp only [Act.put, List.setIfInBounds_toArray, List.set_cons_succ, List.set_cons_zero]
     iterate 1
      apply seqS_op
      ·intro W hW; go_wp2_with fail
       exact ⟨rfl, rfl, fun d hd => by cases hd; simp only [List.getElem?_toArray, List.getElem?_cons_succ, List.getElem?_cons_zero]; rfl, hW⟩
      simp only [Act.put, List.setIfInBounds_toArray, List.set_cons_succ, List.set_cons_zero]
     apply seqS_end; intro W hW; obtain ⟨⟨k0, k1⟩, n0, n1, n2, n3, n4, n5⟩ := HRc3.out W hW; have HW := hZ9 hW; have HBW : Hid (Below V.heap.size V W) := HB3.out.trans (hW.mono HB3.out.size); clear hW HAh HCo HRU HCs n0 n1 n2 n3; by_cases h0 : he = 0
     rotate_left
     ·have e1 : (he != 0) = true := by simpa using h0
      have HE := hZ9 (HErr.out W (y.pos, he) (HRl.out.trans (if_pos h0)) h0 HBW.out); clear h0 HErr HNext HRl; go_wp2_with fail
      first | exact HE.out | (go_ret2; exact HE.out)
     have e1 : (he != 0) = false := by simpa using h0
     have HRb : Hid (ruleErrL x.decls l y = bodyErr x.decls l (y.body.drop 0)) := HRl.out.trans (if_neg (fun q => q h0)); clear h0 HRl; go_wp2_with fail
     clear k0 k1 n4 n5; go_loopw [9, 10] (fun i _ wr => ∃ k : Nat, k ≤ mn ∧ i = .int .i64 (k : Int) ∧ Hid (ruleErrL x.decls l y = bodyErr x.decls l (y.body.drop k)) ∧ Hid (Below w3.heap.size w3 wr)) (fun i _ _ => mn - (intOf i).toNat)
     case atStart => exact ⟨0, by omega, rfl, HRb, HW⟩
     case round =>
      clear HRb HW HBW; obtain ⟨k3, hk3, rfl, HRb, HBk⟩ := hrel; have t0 : (0 : Int) ≤ (k3 : Int) := by omega
      obtain ⟨⟨p0, p1⟩, -, -, -, -, p4, -⟩ := HRc3.out wr HBk.out; have HBV : Hid (Below V.heap.size V wr) := HB3.out.trans (HBk.out.mono HB3.out.size); by_cases hlt3 : k3 < mn
      ·have t1 : (k3 : Int) < (mn : Int) := by omega
       obtain ⟨bb, o, z, a', p', q', rfl, hbb, hz, hlz, Hr⟩ := HyU.out.body.lit_range hlt3; obtain ⟨zA, zn, zc⟩ := a'; have hbu : Below U.heap.size U wr := Hb3.out.trans (HBk.out.mono Hb3.out.size); have Hrw : Hid (wr.rangeAt bb (o + k3 * 17) (litC z ⟨zA, zn, zc⟩ p' q')) := fun i v hv => (hbu.cell (p := ⟨bb, _, none⟩) hbb).trans (Hr.out i v hv)
       have Hc : Hid (∀ W, Below wr.heap.size wr W → W.cell? ⟨bb, o + k3 * 17, none⟩ = some (.int .i64 z.k) ∧ W.cell? ⟨bb, o + k3 * 17 + 1, none⟩ = some (.string z.atom.rel) ∧ W.cell? ⟨bb, o + k3 * 17 + 2, none⟩ = some (.slice zA zn zc) ∧ W.cell? ⟨bb, o + k3 * 17 + 16, none⟩ = some (.int .i64 z.pos)) := fun W hW => ⟨below_cell hW (Hrw.out 0 _ rfl), below_cell hW (Hrw.out 1 _ rfl), below_cell hW (Hrw.out 2 _ rfl), below_cell hW (Hrw.out 16 _ rfl)⟩
       have HSt := hZ9 (bodyErr_at (ds := x.decls) (l := l) hz.out); obtain ⟨le, Hle⟩ : ∃ le, Hid (litErr x.decls l z = le) := ⟨_, rfl⟩
       rw [Hle.out] at HSt; have HNx : Hid (le = 0 → ruleErrL x.decls l y = bodyErr x.decls l (y.body.drop (k3 + 1))) := fun h => HRb.out.trans (HSt.out.trans (if_neg (fun q => q h)))
       have HEr : Hid (∀ W, le ≠ 0 → Below wr.heap.size wr W → P (.returned (.tuple #[.int .i64 z.pos, .int .i64 le])) W) := fun W h hW => HErr.out W (z.pos, le) (HRb.out.trans (HSt.out.trans (if_pos h))) h (HBV.out.trans (hW.mono HBV.out.size))
       have hle : (if z.k = 3 then cmpErr l z else atomErr x.decls l z.atom 0 (-1)) = le := Hle.out; have HCm := hZ9 (refCmpBad_any d z ⟨zA, zn, zc⟩ p' q' lA ln lc l wr (HL3.out.keep HBk.out) (hlz.keep hbu) (HRB.out z (List.mem_of_getElem? hz.out))); have HAm := hZ9 (fun W (hW : Below wr.heap.size wr W) => HAb.out W z.atom zA zn zc 0 (-1) (HBk.out.trans (hW.mono HBk.out.size)) hlz.args); have HR4 : Hid (∀ W, Below wr.heap.size wr W → (W.cell? ⟨w.heap.size, 0, none⟩ = some (.slice aA an ac) ∧ W.cell? ⟨w.heap.size, 1, none⟩ = some (.slice (some ⟨rb, ro, none⟩) bn bc)) ∧ W.cell? ⟨ub, 4, none⟩ = some (.slice (some ⟨bb, o, none⟩) mn mc)) := fun W hW => ⟨⟨below_cell hW p0, below_cell hW p1⟩, below_cell hW p4⟩
       obtain ⟨s0, -, -, -⟩ := Hc.out wr (Below.refl _ _); clear hlz hz Hr hbu HRb HSt p0 p1 Hle; by_cases hk3 : z.k = 3
       ·have e3 : (z.k == 3) = true := by simpa using hk3
        rw [if_pos hk3] at hle; rw [hle] at HCm; clear hk3 HAm hle; go_wp2_with (refine wpList_load_mid rfl 107 (.tmp 84) rfl bb (o + k3 * 17) rfl (litC z ⟨zA, zn, zc⟩ p' q') _ Hrw.out Tryz.underlying107 rfl (lit_sizeD _ _ _ _) ?_)
        refine HCm.out.mono ?_; rintro e w5 ⟨rfl, hb5⟩; have HB5 : Hid (Below w3.heap.size w3 w5) := HBk.out.trans (hb5.mono HBk.out.size); obtain ⟨-, -, -, s5⟩ := Hc.out w5 hb5; obtain ⟨-, q4⟩ := HR4.out w5 hb5; have Hb5 := hZ9 hb5; clear hb5 HCm s0 p4 HR4; by_cases h0 : le = 0
        ·have e4 : (le != 0) = false := by simpa using h0
         have HN := hZ9 (HNx.out h0); clear h0 HNx HEr s5 q4; go_wp2_with fail
         go_roundw
         case rel => exact ⟨k3 + 1, by omega, by go_num, HN, HB5⟩
         case measure => simp [intOf]; omega
        ·have e4 : (le != 0) = true := by simpa using h0
         have HE := hZ9 (HEr.out w5 h0 Hb5.out); clear h0 HNx HEr; go_wp2_with fail
         first | exact HE.out | (go_ret2; exact HE.out)
       ·have e3 : (z.k == 3) = false := by simpa using hk3
        rw [if_neg hk3] at hle; rw [hle] at HAm; clear hk3 HCm hle; go_wp2_with fail
        clear s0 p4; refine drawnS mixed _ (Below wr.heap.size wr) rfl (by kernel_rfl) rfl (Below.drew (Below.refl _ _)) ?_
        iterate 8
         apply seqS_op
         ·intro W hW; obtain ⟨⟨k0, k1⟩, k2⟩ := HR4.out W hW; obtain ⟨m0, m1, m2, m3⟩ := Hc.out W hW; go_wp2_with fail
          exact ⟨rfl, rfl, fun d hd => by cases hd; simp only [List.getElem?_toArray, List.getElem?_cons_succ, List.getElem?_cons_zero]; rfl, hW⟩
         simp only [Act.put, List.setIfInBounds_toArray, List.set_cons_succ, List.set_cons_zero]
        apply seqS_op
        ·intro W hW; go_wp2_with fail
         refine (HAm.out W hW).mono ?_; rintro e w1 ⟨rfl, hb1⟩; go_wp2_with fail
         exact ⟨rfl, rfl, fun d hd => by cases hd; simp only [List.getElem?_toArray, List.getElem?_cons_succ, List.getElem?_cons_zero]; rfl, hW.trans (hb1.mono hW.size)⟩
        simp only [Act.put, List.setIfInBounds_toArray, List.set_cons_succ, List.set_cons_zero]
        iterate 1
         apply seqS_op
         ·intro W hW; go_wp2_with fail
          exact ⟨rfl, rfl, fun d hd => by cases hd; simp only [List.getElem?_toArray, List.getElem?_cons_succ, List.getElem?_cons_zero]; rfl, hW⟩
         simp only [Act.put, List.setIfInBounds_toArray, List.set_cons_succ, List.set_cons_zero]
        apply seqS_end; intro W hW; have HB5 : Hid (Below w3.heap.size w3 W) := HBk.out.trans (hW.mono HBk.out.size); obtain ⟨-, -, -, s5⟩ := Hc.out W hW; obtain ⟨-, q4⟩ := HR4.out W hW; have Hb5 := hZ9 hW; clear hW HAm HR4; by_cases h0 : le = 0
        ·have e4 : (le != 0) = false := by simpa using h0
         have HN := hZ9 (HNx.out h0); clear h0 HNx HEr s5 q4; go_wp2_with fail
         go_roundw
         case rel => exact ⟨k3 + 1, by omega, by go_num, HN, HB5⟩
         case measure => simp [intOf]; omega
        ·have e4 : (le != 0) = true := by simpa using h0
         have HE := hZ9 (HEr.out W h0 Hb5.out); clear h0 HNx HEr; go_wp2_with fail
         first | exact HE.out | (go_ret2; exact HE.out)
      ·have t1 : ¬ (k3 : Int) < (mn : Int) := by omega
       have HN := hZ9 (HNext.out (by rw [HRb.out, List.drop_of_length_le (by have := Hml.out; omega)]; rfl)); clear HNext HErr HRb HBk p0 p1; go_wp2_with fail
       go_roundw
       case rel => exact ⟨k2 + 1, by omega, by go_num, HN, HBV⟩
       case measure => simp [intOf]; omega
    ·have j1 : ¬ (k2 : Int) < (bn : Int) := by omega
     have HE := hZ9 (HEnd.out wr (0, 0) (by rw [HR.out, List.drop_of_length_le (by have := Hbl.out; omega)]; rfl) HB.out); clear HR HB HEnd; go_wp2_with fail
     first | exact HE.out | (go_ret2; exact HE.out)
end Go.Proofs.YtaeedepojpablaaGreatDoor
