/- My own texts TyWf, LiftTypesFits, FactsTypesFits, as far as this claim needs them. -/
import Derived.Test.YtaeedepojpablaaGreatDoorZqd1
set_option linter.unusedVariables false
set_option linter.unusedSimpArgs false
set_option maxRecDepth 1000000
set_option maxHeartbeats 16000000
namespace Go.Proofs.YtaeedepojpablaaGreatDoor
open Go.RowKit
theorem typesFits_walk (d : Nat) (x : GProg) (aA : Option Addr) (an ac : Nat) (bA : Option Addr) (bn bc : Nat) (w : World) (hx : ProgAt d w w.heap.size x ⟨aA, an, ac⟩ ⟨bA, bn, bc⟩) (hW : ParW w) :
 Calls Tryz.prog 5 #[.agg (progC ⟨aA, an, ac⟩ ⟨bA, bn, bc⟩).toArray] w (RetBool true w) := by
 have mixed : Tryz.prog.follows .mixedOrders = true := by kernel_rfl
 obtain ⟨V, hV⟩ : ∃ V, V = w.alloc (.cells #[.slice aA an ac, .slice bA bn bc] 26) := ⟨_, rfl⟩
 have HVe := hZ9 hV.symm; have hg : V.heap[w.heap.size]? = some (.cells #[.slice aA an ac, .slice bA bn bc] 26 (0, 0)) := by rw [hV]; exact heapNew rfl
 have hbV : Below w.heap.size w V := by rw [hV]; exact belowA (Below.refl _ _) _
 have hgl : w.heap.size < V.heap.size := (glt hg)
 have HbV := hZ9 hbV; have HC : Hid (∀ W, Below V.heap.size V W → W.cell? ⟨w.heap.size, 0, none⟩ = some (.slice aA an ac) ∧ W.cell? ⟨w.heap.size, 1, none⟩ = some (.slice bA bn bc)) := fun W hW => facts2 ((hW.block _ hgl).trans hg)
 have HX : Hid (∀ W, Below V.heap.size V W → ProgAt d W W.heap.size x ⟨aA, an, ac⟩ ⟨bA, bn, bc⟩) := fun W hWb => (hx.keep hbV).keep hWb
 have HPW : Hid (∀ W, Below V.heap.size V W → ParW W) := fun W hWb => hW.on (hbV.trans (hWb.mono hbV.size))
 have HAl := hZ9 (alive8_any V (HPW.out V (Below.refl _ _))); have hbn := hx.rules.bound; have Hbl : Hid (x.rules.length = bn) := hx.rules.1; have HBw : Hid (∀ W, Below V.heap.size V W → Below w.heap.size w W) := fun W hW => hbV.trans (hW.mono hbV.size)
 clear hx hW hV hg hbV; go_enter Tryz.func5, Tryz.ntmps5
 go_wp2_with (rw [HVe.out])
 refine HAl.out.mono ?_; rintro e w1 ⟨rfl, hb1⟩; have HB1 := hZ9 hb1; have HSz := hZ9 (size_any d x ⟨aA, an, ac⟩ ⟨bA, bn, bc⟩ w1 (HX.out w1 hb1)); obtain ⟨c0, c1⟩ := HC.out w1 hb1; clear hb1 HAl; go_wp2_with fail
 refine HSz.out.mono ?_; rintro e w2 ⟨R, rfl, hR, hb2⟩; have HB2 : Hid (Below V.heap.size V w2) := HB1.out.trans (hb2.mono HB1.out.size); have HE2 : Hid (Below w.heap.size w w2) := HBw.out w2 HB2.out; clear hb2 HSz hR c0 c1; by_cases hs : R < 0
 ·go_wp2_with fail
  go_ret; exact ⟨rfl, HE2.out⟩
 have HCk := hZ9 (tyCheck_any d x aA an ac bA bn bc w2 (HX.out w2 HB2.out) (HPW.out w2 HB2.out).lex); obtain ⟨c0, c1⟩ := HC.out w2 HB2.out; obtain ⟨r, Hr⟩ : ∃ r, Hid (tyErr x = r) := ⟨_, rfl⟩
 rw [Hr.out] at HCk; obtain ⟨r1, r2⟩ := r; unfold TyPost at HCk; dsimp only at HCk; by_cases hr2 : r2 = 0
 rotate_left
 ·have hev : errV 89 r2 = .iface 89 (.int .i64 r2) := by unfold errV; rw [if_neg hr2]
  rw [hev] at HCk; clear hev hr2; go_wp2_with fail
  refine HCk.out.mono ?_; rintro e w5 ⟨rfl, hb5⟩; have HE := hZ9 (HBw.out w5 (HB2.out.trans (hb5.mono HB2.out.size))); clear hb5 HCk c0 c1; go_wp2_with fail
  go_ret; exact ⟨rfl, HE.out⟩
 subst hr2; have hev : errV 89 0 = .nilIface := rfl; rw [hev] at HCk; have HTy : Hid ((tyErr x).2 = 0) := by show _ = _; rw [Hr.out]
 have Hfo := hZ9 (tyErr_none HTy.out).1; clear hev Hr; go_wp2_with fail
 refine HCk.out.mono ?_; rintro e w5 ⟨rfl, hb5⟩; have HB5 : Hid (Below V.heap.size V w5) := HB2.out.trans (hb5.mono HB2.out.size); obtain ⟨-, d1⟩ := HC.out w5 HB5.out; clear hb5 HCk c0 c1; go_wp2_with fail
 clear d1; go_loopw [6, 7, 9, 10, 11, 12, 13, 14, 15, 16, 32] (fun _ _ _ _ _ _ _ _ _ _ i wr => ∃ k : Nat, k ≤ bn ∧ i = .int .i64 (k : Int) ∧ Hid (Below V.heap.size V wr)) (fun _ _ _ _ _ _ _ _ _ _ i _ => bn - (intOf i).toNat)
 case atStart => exact ⟨0, by omega, rfl, HB5⟩
 case round =>
  clear HB5 HB2 HE2 HB1; obtain ⟨k, hk, rfl, HB⟩ := hrel; have i0 : (0 : Int) ≤ (k : Int) := by omega
  by_cases hlt : k < bn
  rotate_left
  ·have i1 : ¬ (k : Int) < (bn : Int) := by omega
   have HE := hZ9 (HBw.out wr HB.out); go_wp2_with fail
   go_ret; exact ⟨rfl, HE.out⟩
  have i1 : (k : Int) < (bn : Int) := by omega
  obtain ⟨rb, ro, y, cs, hbA, hrb, hy, ⟨a, m, rfl, hyA⟩, hcs⟩ := (HX.out wr HB.out).rules.cells_at hlt; dsimp only at hbA; subst hbA; obtain ⟨mA, mn, mc⟩ := m; obtain ⟨hA, hn, hc⟩ := a; have HCs : Hid (∀ j' v, (ruleC y ⟨hA, hn, hc⟩ ⟨mA, mn, mc⟩)[j']? = some v → wr.cell? ⟨rb, ro + k * 6 + j', none⟩ = some v) := hcs; obtain ⟨ub, Hub⟩ : ∃ ub, Hid (wr.heap.size = ub) := ⟨_, rfl⟩
  obtain ⟨U, hU⟩ : ∃ U, U = wr.alloc (.cells (ruleC y ⟨hA, hn, hc⟩ ⟨mA, mn, mc⟩).toArray 56) := ⟨_, rfl⟩
  have HUe := hZ9 hU.symm; have hbU : Below wr.heap.size wr U := by rw [hU]; exact belowA (Below.refl _ _) _
  have hrU : U.heap[ub]? = some (.cells (ruleC y ⟨hA, hn, hc⟩ ⟨mA, mn, mc⟩).toArray 56 (0, 0)) := by rw [hU]; exact heapNew Hub.out
  have hgU := (glt hrU)
  have hBU : Below V.heap.size V U := HB.out.trans (hbU.mono HB.out.size); have HBU := hZ9 hBU; have HRc : Hid (∀ W, Below U.heap.size U W → W.cell? ⟨ub, 0, none⟩ = some (.string y.head.rel) ∧ W.cell? ⟨ub, 1, none⟩ = some (.slice hA hn hc) ∧ W.cell? ⟨ub, 2, none⟩ = some (.int .i64 y.agg) ∧ W.cell? ⟨ub, 3, none⟩ = some (.int .i64 y.col) ∧ W.cell? ⟨ub, 4, none⟩ = some (.slice mA mn mc) ∧ W.cell? ⟨ub, 5, none⟩ = some (.int .i64 y.pos)) := fun W hW => facts6 ((hW.block _ hgU).trans hrU)
  have HRr : Hid (∀ W, Below U.heap.size U W → ∀ j' v, (ruleC y ⟨hA, hn, hc⟩ ⟨mA, mn, mc⟩)[j']? = some v → W.cell? ⟨ub, 0 + j', none⟩ = some v) := fun W hW => row_cells ((hW.block _ hgU).trans hrU)
  have HyU := hZ9 (hyA.keep hbU); have hym := List.mem_of_getElem? hy.out; have Hry := hZ9 ((formed_rules Hfo.out).2 y hym); have HFb := hZ9 (fun (i : Nat) (z : GLit) (hz : y.body[i]? = some z) (hk : z.k ≠ 3) => fit_body HTy.out hym hz hk); have HFh := hZ9 (fit_head HTy.out hym); have Hml : Hid (y.body.length = mn) := hyA.body.1; have hmn : mn ≤ 8 := by rw [← Hml.out]; exact (right_body Hry.out).1
  obtain ⟨B0, hB0⟩ : ∃ B0, B0 = U.alloc (.cells #[] 53) := ⟨_, rfl⟩
  have HB0e := hZ9 hB0.symm; have hbB0 : Below U.heap.size U B0 := by rw [hB0]; exact belowA (Below.refl _ _) _
  have HA0 : Hid (AOwn B0 U.heap.size (some ⟨U.heap.size, 0, none⟩) 0 []) := by
   show AOwn _ _ _ _ _; rw [hB0]; exact own_empty (Nat.le_refl _) (Go.heap_alloc_new U _)
  have HBB0 := hZ9 hbB0; obtain ⟨-, -, -, -, u4, -⟩ := HRc.out B0 hbB0; obtain ⟨ds, Hds⟩ : ∃ ds, Hid (x.decls = ds) := ⟨_, rfl⟩
  obtain ⟨l, Hl⟩ : ∃ l, Hid (kindsR x.decls y = l) := ⟨_, rfl⟩
  rw [Hl.out, Hds.out] at HFb HFh; clear hU hbU hrU hyA hcs hy hBU hym hB0 hbB0
  go_wp2_with (first
   | rw [HUe.out]
   | rw [Hub.out]
   | rw [HB0e.out]
   | refine wpList_load_at rb (ro + k * 6) (ruleC y ⟨hA, hn, hc⟩ ⟨mA, mn, mc⟩) _ HCs.out Tryz.underlying56 rfl (rule_sizeY _ _ _) rfl rfl ?_
   | refine wpList_new rfl rfl 56 6 (.tmp 35) rfl rfl rfl rfl _ (ruleC y ⟨hA, hn, hc⟩ ⟨mA, mn, mc⟩).toArray rule_infoY rfl (rule_oneY _ _ _) rfl rfl ?_)
  clear u4; go_loopw [7, 9, 40] (fun t _ i wr => ∃ (j : Nat) (A : Option Addr) (c : Nat) (ps : List (GAtom × Hd)), j ≤ mn ∧ i = .int .i64 (j : Int) ∧ t = .slice A ps.length c ∧ ps.length ≤ j ∧ Hid (AOwn wr U.heap.size A c ps) ∧ Hid (Below U.heap.size U wr) ∧ Hid (∀ p ∈ ps, SliceIs Enc.told U U.heap.size p.2.A p.2.n p.2.c p.1.args ∧ Fit ds l p.1 (fun _ => False))) (fun _ _ i _ => mn - (intOf i).toNat)
  case atStart => exact ⟨0, some ⟨U.heap.size, 0, none⟩, 0, [], by omega, rfl, rfl, by simp, HA0, HBB0, (fun p hp => by cases hp)⟩
  case round =>
   clear HA0 HBB0; obtain ⟨j, A, c, ps, hj, rfl, rfl, hpl, HAo, HBj, HPs⟩ := hrel; have j0 : (0 : Int) ≤ (j : Int) := by omega
   by_cases hjl : j < mn
   ·have j1 : (j : Int) < (mn : Int) := by omega
    obtain ⟨bb, o, z, a', p', q', rfl, hbb, hz, hlz, Hr⟩ := HyU.out.body.lit_range hjl; obtain ⟨zA, zn, zc⟩ := a'; have Hrw : Hid (wr.rangeAt bb (o + j * 17) (litC z ⟨zA, zn, zc⟩ p' q')) := fun i v hv => (HBj.out.cell (p := ⟨bb, _, none⟩) hbb).trans (Hr.out i v hv)
    obtain ⟨Q, hQ⟩ : ∃ Q, Q = wr.alloc (.cells (litC z ⟨zA, zn, zc⟩ p' q').toArray 80) := ⟨_, rfl⟩
    have HQe := hZ9 hQ.symm; have hbQ : Below wr.heap.size wr Q := by rw [hQ]; exact belowA (Below.refl _ _) _
    have hrQ : Q.heap[wr.heap.size]? = some (.cells (litC z ⟨zA, zn, zc⟩ p' q').toArray 80 (0, 0)) := by rw [hQ]; exact heapNew rfl
    have y0 : Q.cell? ⟨wr.heap.size, 0, none⟩ = some (.int .i64 z.k) := (facts17 hrQ).1; have y1 : Q.cell? ⟨wr.heap.size, 1, none⟩ = some (.string z.atom.rel) := (facts17 hrQ).2.1; have y2 : Q.cell? ⟨wr.heap.size, 2, none⟩ = some (.slice zA zn zc) := (facts17 hrQ).2.2.1; have HBQ : Hid (Below U.heap.size U Q) := HBj.out.trans (hbQ.mono HBj.out.size); have HAQ : Hid (AOwn Q U.heap.size A c ps) := own_below HAo.out hbQ; by_cases hk3 : z.k = 3
    ·have e3 : (z.k != 3) = false := by simpa using hk3
     clear hQ hbQ hrQ hlz hz Hr hk3 y1 y2 HAo HBj
     go_wp2_with (first
      | rw [HQe.out]
      | refine wpList_load_mid rfl 80 (.tmp 42) rfl bb (o + j * 17) rfl (litC z ⟨zA, zn, zc⟩ p' q') _ Hrw.out Tryz.underlying80 rfl (lit_size _ _ _ _) ?_
      | refine wpList_new rfl rfl 80 9 (.tmp 43) rfl rfl rfl rfl _ (litC z ⟨zA, zn, zc⟩ p' q').toArray lit_info rfl (lit_one _ _ _ _) rfl rfl ?_)
     go_roundw
     case rel => exact ⟨j + 1, A, c, ps, by omega, by go_num, rfl, by omega, HAQ, HBQ, HPs⟩
     case measure => simp [intOf]; omega
    ·have e3 : (z.k != 3) = true := by simpa using hk3
     obtain ⟨A', c', w', hrun, ho', hb', hz', -⟩ := atom_push HAQ.out z.atom.rel z.atom.args zA zn zc (by omega) HBQ.out.size; have HRun := hZ9 hrun; have HAn := hZ9 ho'; have HBn : Hid (Below U.heap.size U w') := HBQ.out.trans (hb'.mono (Nat.le_refl _))
     have HPn : Hid (∀ p ∈ ps ++ [((⟨z.atom.rel, z.atom.args⟩ : GAtom), (⟨zA, zn, zc⟩ : Hd))], SliceIs Enc.told U U.heap.size p.2.A p.2.n p.2.c p.1.args ∧ Fit ds l p.1 (fun _ => False)) := fun p hp => by
      rcases List.mem_append.1 hp with hp | hp
      ·exact HPs.out p hp
      ·rw [List.mem_singleton.1 hp]; exact ⟨hlz.args, HFb.out j z hz.out hk3⟩
     have hpl' : (ps ++ [((⟨z.atom.rel, z.atom.args⟩ : GAtom), (⟨zA, zn, zc⟩ : Hd))]).length ≤ j + 1 := by simp; omega
     obtain ⟨qs, Hqs⟩ : ∃ qs, Hid (ps ++ [((⟨z.atom.rel, z.atom.args⟩ : GAtom), (⟨zA, zn, zc⟩ : Hd))] = qs) := ⟨_, rfl⟩
     rw [Hqs.out] at HRun HAn HPn hpl'; clear hQ hbQ hrQ hlz hz Hr hk3 HAo HBj hrun ho' hb' hz' HPs HAQ Hqs
     go_wp2_with (first
      | rw [HQe.out]
      | refine wpList_load_mid rfl 80 (.tmp 42) rfl bb (o + j * 17) rfl (litC z ⟨zA, zn, zc⟩ p' q') _ Hrw.out Tryz.underlying80 rfl (lit_size _ _ _ _) ?_
      | refine wpList_new rfl rfl 80 9 (.tmp 43) rfl rfl rfl rfl _ (litC z ⟨zA, zn, zc⟩ p' q').toArray lit_info rfl (lit_one _ _ _ _) rfl rfl ?_
      | (at_builtin; refine wpList_append_run rfl _ _ _ rfl _ _ rfl rfl (HRun.out _) ?_))
     go_roundw
     case rel => exact ⟨j + 1, A', c', qs, by omega, by go_num, rfl, hpl', HAn, HBn, HPn⟩
     case measure => simp [intOf]; omega
   ·have j1 : ¬ (j : Int) < (mn : Int) := by omega
    have hbw : Below V.heap.size V wr := HBU.out.trans (HBj.out.mono HBU.out.size); have HKi := hZ9 (tyKinds_any d x aA an ac (some ⟨rb, ro, none⟩) bn bc y ⟨hA, hn, hc⟩ ⟨mA, mn, mc⟩ wr (HX.out wr hbw) (HyU.out.keep HBj.out) (HPW.out wr hbw).lex); have hk0 : (if (formedB x && rightRule y) = true then kindsR x.decls y else []) = l := by rw [Hfo.out, Hry.out]; exact Hl.out
    rw [hk0] at HKi; obtain ⟨c0, c1⟩ := HC.out wr hbw; have HRw := hZ9 (HRr.out wr HBj.out); clear hbw hk0 HFb; go_wp2_with (refine wpList_load_at ub 0 (ruleC y ⟨hA, hn, hc⟩ ⟨mA, mn, mc⟩) _ HRw.out Tryz.underlying56 rfl (rule_sizeY _ _ _) rfl rfl ?_)
    refine HKi.out.mono ?_; rintro e w9 ⟨v, rfl, hm9, hb9⟩; have HKM := hZ9 hm9; have h9 : Below U.heap.size U w9 := HBj.out.trans (hb9.mono HBj.out.size); obtain ⟨v0, v1, v2, v3, -, -⟩ := HRc.out w9 h9; obtain ⟨A', c', w10, hrun, ho', hb', hz', hmap⟩ := atom_push (own_below HAo.out hb9) y.head.rel y.head.args hA hn hc (by omega) h9.size; have HRun := hZ9 hrun; have hB10 : Below U.heap.size U w10 := h9.trans hb'; have HB10 := hZ9 hB10
    have HPn : Hid (∀ i p, (ps ++ [((⟨y.head.rel, y.head.args⟩ : GAtom), (⟨hA, hn, hc⟩ : Hd))])[i]? = some p → Fit ds l p.1 (fun q => i = ps.length ∧ 0 < y.agg ∧ q = y.col)) := fun i p hp => by
     by_cases hi : i < ps.length
     ·rw [List.getElem?_append_left hi] at hp; obtain ⟨f1, f2, f3⟩ := (HPs.out p (List.mem_of_getElem? hp)).2; exact ⟨f1, f2, fun j t hj _ => f3 j t hj (fun h => h)⟩
     ·rw [List.getElem?_append_right (by omega)] at hp
      have hi2 : i - ps.length = 0 := by
       rcases Nat.eq_zero_or_pos (i - ps.length) with h | h
       ·exact h
       ·rw [List.getElem?_eq_none (by simp; omega)] at hp; cases hp
      rw [hi2] at hp; simp at hp
      subst hp; obtain ⟨f1, f2, f3⟩ := HFh.out; exact ⟨f1, f2, fun j t hj hs => f3 j t hj (fun h => hs ⟨by omega, h⟩)⟩
    obtain ⟨na, Hna⟩ : ∃ na, Hid (ps.length = na) := ⟨_, rfl⟩
    have hS := ho'.is (by simp; omega) (fun p hp => by
     rcases List.mem_append.1 hp with hp | hp
     ·exact (HPs.out p hp).1.keep hB10
     ·rw [List.mem_singleton.1 hp]; exact HyU.out.args.keep hB10)
    have hPl : (ps ++ [((⟨y.head.rel, y.head.args⟩ : GAtom), (⟨hA, hn, hc⟩ : Hd))]).length = na + 1 := by simp; exact Hna.out
    have HKM10 : Hid (KMap w10 v l) := hm9.same hmap; have hBV10 : Below V.heap.size V w10 := HBU.out.trans (hB10.mono HBU.out.size); have HBV10 := hZ9 hBV10; obtain ⟨PS, HPSe⟩ : ∃ PS, Hid (ps ++ [((⟨y.head.rel, y.head.args⟩ : GAtom), (⟨hA, hn, hc⟩ : Hd))] = PS) := ⟨_, rfl⟩
    rw [HPSe.out] at HRun hS HPn; rw [HPSe.out] at hPl; rw [hPl] at HRun hS; rw [Hna.out] at HRun HPn ⊢; have HS := hZ9 hS; have hna9 : na ≤ 8 := by have := Hna.out; omega
    have HDk : Hid (∀ d ∈ ds, d.kinds.length ≤ 10000) := by show ∀ d ∈ ds, _; rw [← Hds.out]; exact formed_kinds Hfo.out
    have HX3 : Hid (∀ W, Below V.heap.size V W → SliceIs Enc.decl W W.heap.size aA an ac ds) := fun W hW => by rw [← Hds.out]; exact (HX.out W hW).decls
    clear hm9 hb9 h9 hrun ho' hb' hz' hmap hS hB10 hBV10 hPl HKM HKi HAo HPs c0 c1 HRw HPSe HX HPW HFh HyU Hry Hml; go_wp2_with (at_builtin; refine wpList_append_run rfl _ _ _ rfl _ _ rfl rfl (HRun.out _) ?_)
    clear v0 v1 v2 v3; have hrc10 := HRc.out w10 HB10.out; obtain ⟨-, -, w2', w3', -, -⟩ := hrc10; have HAg : Hid (∀ W, Below w10.heap.size w10 W → W.cell? ⟨ub, 2, none⟩ = some (.int .i64 y.agg) ∧ W.cell? ⟨ub, 3, none⟩ = some (.int .i64 y.col)) := fun W hW => ⟨below_cell hW w2', below_cell hW w3'⟩
    clear w2' w3' HRc HRr; go_loopw [11, 12, 13, 14, 15, 16, 62] (fun _ _ _ _ _ _ i wr => ∃ q : Nat, q ≤ na + 1 ∧ i = .int .i64 (q : Int) ∧ Hid (Below w10.heap.size w10 wr)) (fun _ _ _ _ _ _ i _ => na + 1 - (intOf i).toNat)
    case atStart => exact ⟨0, by omega, rfl, Below.refl _ _⟩
    case round =>
     obtain ⟨q, hq, rfl, HBq⟩ := hrel; have q0 : (0 : Int) ≤ (q : Int) := by omega
     have hBVq : Below V.heap.size V wr := HBV10.out.trans (HBq.out.mono HBV10.out.size); by_cases hql : q < na + 1
     rotate_left
     ·have q1 : ¬ (q : Int) < (na : Int) + 1 := by omega
      have q1' : ¬ (q : Int) < ((na + 1 : Nat) : Int) := by omega
      have HBe := hZ9 hBVq; clear hBVq; go_wp2_with fail
      go_roundw
      case rel => exact ⟨k + 1, by omega, by go_num, HBe⟩
      case measure => simp [intOf]; omega
     have q1 : (q : Int) < (na : Int) + 1 := by omega
     have q1' : (q : Int) < ((na + 1 : Nat) : Int) := by omega
     obtain ⟨ab, ao, pp, rfl, hab, hpp, z0, z1, htold⟩ := (HS.out.keep HBq.out).atm_at hql; obtain ⟨⟨pr, pa⟩, ⟨pA, pn, pc⟩⟩ := pp; dsimp only [Hd.v] at z0 z1 htold; have HFt := hZ9 (HPn.out q _ hpp.out); obtain ⟨Q, hQ⟩ : ∃ Q, Q = wr.alloc (.cells #[.string pr, .slice pA pn pc] 53) := ⟨_, rfl⟩
     have HQe := hZ9 hQ.symm; have hbQ : Below wr.heap.size wr Q := by rw [hQ]; exact belowA (Below.refl _ _) _
     have hrQ : Q.heap[wr.heap.size]? = some (.cells #[.string pr, .slice pA pn pc] 53 (0, 0)) := by rw [hQ]; exact heapNew rfl
     have hgQ := (glt hrQ)
     obtain ⟨y0, y1⟩ := facts2 hrQ; have hBVQ : Below V.heap.size V Q := hBVq.trans (hbQ.mono hBVq.size); have HBQ : Hid (Below w10.heap.size w10 Q) := HBq.out.trans (hbQ.mono HBq.out.size); have HTo := hZ9 (htold.keep hbQ); obtain ⟨c0, c1⟩ := HC.out Q hBVQ; have HOf := hZ9 (ofK_any aA an ac (.slice (some ⟨rb, ro, none⟩) bn bc) ds pr Q (HX3.out Q hBVQ) HDk.out)
     have hso : (idxD ds pr).isSome = true := by
      have := HFt.out.known; dsimp only at this; cases h : idxD ds pr with
      | none => exact absurd h this
      | some _ => rfl
     have hlp : (kindsD ds pr).length = pn := by have := HFt.out.len; dsimp only at this; rw [this]; exact htold.1
     obtain ⟨ks, Hks⟩ : ∃ ks, Hid (kindsD ds pr = ks) := ⟨_, rfl⟩
     unfold OfPost at HOf; rw [hso, hlp, Hks.out] at HOf
     have HKd : Hid (∀ (j : Nat) (t : GTold), pa[j]? = some t → ¬ (q = na ∧ 0 < y.agg ∧ (j : Int) = y.col) → (if t.x.size = 0 then t.v.k else kget l t.x) = ks.getD j 0) := fun j t hj hs => by
      have := HFt.out.kind j t hj hs; dsimp only at this; rw [Hks.out] at this; exact this
     have hpn := htold.bound; clear hQ hbQ hrQ htold hBVQ hBVq hso hlp HFt hpp; go_wp2_with (rw [HQe.out])
     refine HOf.out.mono ?_; rintro e w12 ⟨A1, c1', rfl, hs12, hb12⟩; have HK12 := hZ9 hs12.is; have HB12 : Hid (Below w10.heap.size w10 w12) := HBQ.out.trans (hb12.mono HBQ.out.size); have HTo12 := hZ9 (HTo.out.keep hb12); have d1 := below_cell hb12 y1; have e1 : ((pn : Int) != (pn : Int)) = false := by simp
     clear hs12 hb12 HOf c0 c1 y0 y1 z0 z1; go_wp2_with fail
     clear d1; go_loopw [15, 16, 87] (fun _ _ i wr => ∃ j : Nat, j ≤ pn ∧ i = .int .i64 (j : Int) ∧ Hid (Below w12.heap.size w12 wr)) (fun _ _ i _ => pn - (intOf i).toNat)
     case atStart => exact ⟨0, by omega, rfl, Below.refl _ _⟩
     case round =>
      obtain ⟨j, hj, rfl, HBj⟩ := hrel; have j0 : (0 : Int) ≤ (j : Int) := by omega
      by_cases hjl : j < pn
      rotate_left
      ·have j1 : ¬ (j : Int) < (pn : Int) := by omega
       have HBe : Hid (Below w10.heap.size w10 wr) := HB12.out.trans (HBj.out.mono HB12.out.size); go_wp2_with fail
       go_roundw
       case rel => exact ⟨q + 1, by omega, by go_num, HBe⟩
       case measure => simp [intOf]; omega
      have j1 : (j : Int) < (pn : Int) := by omega
      obtain ⟨b, o, x', rfl, hbb, hx', z0, z1, z2, z3, -, -⟩ := (HTo12.out.keep HBj.out).told_at hjl; obtain ⟨b2, o2, kk, rfl, hbb2, hkk, u0, -⟩ := (HK12.out.keep HBj.out).int_at hjl; obtain ⟨Q2, hQ2⟩ : ∃ Q2, Q2 = wr.alloc (.cells #[.string x'.x, .int .i64 x'.v.k, .int .i64 x'.v.n, .string x'.v.s] 75) := ⟨_, rfl⟩
      have HQ2e := hZ9 hQ2.symm; have hbQ2 : Below wr.heap.size wr Q2 := by rw [hQ2]; exact belowA (Below.refl _ _) _
      have hrQ2 : Q2.heap[wr.heap.size]? = some (.cells #[.string x'.x, .int .i64 x'.v.k, .int .i64 x'.v.n, .string x'.v.s] 75 (0, 0)) := by rw [hQ2]; exact heapNew rfl
      obtain ⟨y0, y1, y2, y3⟩ := facts4 hrQ2; have hB2 : Below w12.heap.size w12 Q2 := HBj.out.trans (hbQ2.mono HBj.out.size); have HBQ2 := hZ9 hB2; have hB10 : Below w10.heap.size w10 Q2 := HB12.out.trans (hB2.mono HB12.out.size); obtain ⟨g2, g3⟩ := HAg.out Q2 hB10; have u1 := below_cell hbQ2 u0; have hKM : KMap Q2.drew v l := (HKM10.out.below hB10).below (Below.refl _ _).drew; have hlk := hKM.look x'.x; have HK := hZ9 (HKd.out j x' hx'.out); rw [show ks.getD j 0 = kk by rw [List.getD_eq_getElem?_getD, hkk.out]; rfl] at HK; have HBd : Hid (Below w12.heap.size w12 Q2.drew) := hB2.drew; clear hQ2 hbQ2 hrQ2 hB2 hB10 hKM hx' hkk u0; by_cases hskip : q = na ∧ 0 < y.agg ∧ (j : Int) = y.col
      ·obtain ⟨h1, h2, h3⟩ := hskip; have f1 : ((q : Int) == (na : Int)) = true := by rw [h1]; simp
       have f3 : ((j : Int) == y.col) = true := by simpa using h3
       clear h1 h3 HK hlk; go_wp2_with (rw [HQ2e.out])
       go_roundw
       case rel => exact ⟨j + 1, by omega, by go_num, HBQ2⟩
       case measure => simp [intOf]; omega
      have hk1 := HK.out hskip
      have hcase : ((q : Int) == (na : Int)) = false ∨ (((q : Int) == (na : Int)) = true ∧ ¬ 0 < y.agg) ∨ (((q : Int) == (na : Int)) = true ∧ 0 < y.agg ∧ ((j : Int) == y.col) = false) := by
       by_cases h1 : q = na
       ·have f1 : ((q : Int) == (na : Int)) = true := by rw [h1]; simp
        by_cases h2 : 0 < y.agg
        ·exact .inr (.inr ⟨f1, h2, by rw [beq_eq_false_iff_ne]; exact fun e => hskip ⟨h1, h2, e⟩⟩)
        ·exact .inr (.inl ⟨f1, h2⟩)
       ·exact .inl (by rw [beq_eq_false_iff_ne]; omega)
      clear hskip HK; by_cases hx0 : x'.x.size = 0
      ·rw [if_pos hx0] at hk1; have e2 : (x'.v.k != kk) = false := by rw [hk1]; simp
       have e3 : x'.x.toList.isEmpty = true := by rw [isEmpty_size]; simp [hx0]
       clear hk1 hx0 hlk; rcases hcase with f1 | ⟨f1, f2⟩ | ⟨f1, f2, f3⟩
       all_goals
        go_wp2_with (rw [HQ2e.out])
        refine drawnS mixed _ (fun W => W = Q2.drew) rfl (by kernel_rfl) rfl rfl ?_; have hyu : undef = Value.tuple #[] := rfl
        iterate 29
         apply seqS_op
         ·rintro W rfl; go_wp2_with fail
          exact ⟨rfl, rfl, fun d hd => by cases hd; simp only [List.getElem?_toArray, List.getElem?_cons_succ, List.getElem?_cons_zero]; rfl, rfl⟩
         simp only [Act.put, List.setIfInBounds_toArray, List.set_cons_succ, List.set_cons_zero]
        clear hyu; apply seqS_end; rintro W rfl; go_wp2_with fail
        go_roundw
        case rel => exact ⟨j + 1, by omega, by go_num, HBd⟩
        case measure => simp [intOf]; omega
      ·rw [if_neg hx0] at hk1; rw [hk1] at hlk; have e2 : (kk != kk) = false := by simp
       have e3 : x'.x.toList.isEmpty = false := by rw [isEmpty_size]; simp; intro h; exact hx0 (by rw [h]; rfl)
       clear hk1 hx0; rcases hcase with f1 | ⟨f1, f2⟩ | ⟨f1, f2, f3⟩
       all_goals
        go_wp2_with (rw [HQ2e.out])
        refine drawnS mixed _ (fun W => W = Q2.drew) rfl (by kernel_rfl) rfl rfl ?_; have hyu : undef = Value.tuple #[] := rfl
        iterate 29
         apply seqS_op
         ·rintro W rfl; go_wp2_with fail
          exact ⟨rfl, rfl, fun d hd => by cases hd; simp only [List.getElem?_toArray, List.getElem?_cons_succ, List.getElem?_cons_zero]; rfl, rfl⟩
         simp only [Act.put, List.setIfInBounds_toArray, List.set_cons_succ, List.set_cons_zero]
        clear hyu; apply seqS_end; rintro W rfl; go_wp2_with fail
        go_roundw
        case rel => exact ⟨j + 1, by omega, by go_num, HBd⟩
        case measure => simp [intOf]; omega
end Go.Proofs.YtaeedepojpablaaGreatDoor

namespace Go.Proofs.YtaeedepojpablaaGreatDoor
open Go.ChangeShapes Go.WideShapes Go.ChangeAt Go.RowKit
set_option linter.unusedVariables false
theorem params : Tryz.f5.params = #[26] := by kernel_rfl
theorem lifted (os : Os) (started : os.Started) (H : Type) (enc : TypeId × Value → H) :
 ReturnsInHanded {} Tryz.checked os 5 .any (fun w args => (Rows.typesFitsSpec.pre enc Tryz.prog Tryz.f5 Rows.typesFitsRow.domain false w args ∧ laidMet Tryz.prog laidP w) ∧ sizedMet enc Tryz.prog Tryz.f5 (OpenSpec.ofChange Rows.typesFitsSpec) false w args)
  (Rows.typesFitsSpec.post enc Tryz.prog Tryz.f5 false true false false) := by
 refine returnsInHanded_of_change_and (C := Tryz.checked) (X := fun w _ => laidMet Tryz.prog laidP w) (fun _ _ _ hh h => h.of_heap hh) own started (by kernel_rfl) Tryz.func5
  (ChangeSpec.witness_at (enc := enc) (C := Tryz.checked) (os := os) (X := fun w _ => laidMet Tryz.prog laidP w) false (laidWorldP os) #[.agg #[.slice none 0 0, .slice none 0 0]] 8 rfl (by kernel_rfl) (by kernel_rfl) (by kernel_rfl) (by kernel_rfl) (by kernel_rfl) (laidWorldP_met os _)) ?_
 intro W base args ds gs before hval0 hW hcnd hsz0 hL _; have hval : ∀ (j : Nat) t v, Tryz.f5.params[j]? = some t → args[j]? = some v → Value.okWide Tryz.prog W .any base t v := hval0; have hW' := hW; obtain ⟨p, q, hA0, hV, rfl, hfz, hnd⟩ := hW; have hA : DataW.TrodAll enc Tryz.prog W 0 (fun _ => true) true Tryz.f5.params.toList args.toList ds p := hA0; have hsz : (DataW.weightsEach Tryz.prog (Tryz.f5.params.toList ++ Rows.typesFitsSpec.plain.varTypes Tryz.prog) (ds ++ gs)).all (· ≤ reachBytes) = true := hsz0; rw [params] at hA hval hsz; obtain ⟨v0, vs0, d0, ds0, p0, q0, hargs, rfl, rfl, h0, r0⟩ := trodAll_cons hA; obtain ⟨rfl, rfl, rfl⟩ := trodAll_nil r0; obtain rfl : args = #[v0] := by cases args; simp_all
 obtain ⟨rfl, rfl⟩ := trodVars_none hV
 have hwt : ∀ (j : Nat) (t : TypeId) (d : DataW H), [26][j]? = some t → [d0][j]? = some d → ∀ n ∈ d.weights Tryz.prog t, n ≤ reachBytes := fun j t d ht hd n hn => by
  have := List.all_eq_true.1 hsz n (DataW.weights_mem_each (j := j) (by rw [List.getElem?_append_left (by simpa using (List.getElem?_eq_some_iff.1 ht).1)]; exact ht) (by rw [List.getElem?_append_left (by simpa using (List.getElem?_eq_some_iff.1 hd).1)]; exact hd) n hn); simpa using this
 have lt0 : ∀ x ∈ p0, x.block < W.heap.size := by obtain ⟨m, hm⟩ := h0; exact DataW.trod_lt m _ _ _ hm
 obtain ⟨N0, a0, cs0, rfl, A0, B0, rfl, k0⟩ := open_encB u_prog o_prog (hval 0 26 v0 rfl rfl) h0 (hwt 0 _ _ rfl rfl); clear hA0 hval0; refine (typesFits_walk N0 a0 A0.A A0.n A0.c B0.A B0.n B0.c W k0 (parW_of_laidP hL)).mono fun e W' ⟨he, bel⟩ => ?_
 subst he
 exact ⟨_, rfl, _, _, _, [], _, [], hW', trodAll_mk1 (shut_bool u_bool _),
  (trodAll_cons_mk (Below.trod laidOut (by kernel_rfl) (of_decide_eq_true (by kernel_rfl)) h0 bel lt0)
   trodAll_mk0), rfl, bel.frame _, fun h => by cases h⟩
end Go.Proofs.YtaeedepojpablaaGreatDoor

namespace Go.Proofs.YtaeedepojpablaaGreatDoor
theorem closedF : joinedFacts Tryz.prog 5 Tryz.f5 Rows.typesFitsSpec Rows.typesFitsRow = true := by
 unfold joinedFacts; simp only [Bool.and_eq_true]; repeat' (with_reducible refine And.intro ?_ ?_)
 all_goals (as_aux_lemma => kernel_rfl)
end Go.Proofs.YtaeedepojpablaaGreatDoor
