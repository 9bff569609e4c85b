/- My own texts TyRb, TyRc, as far as this claim needs them. -/
import Derived.Test.YtaeedepojpablaaGreatDoorZqb7
set_option linter.unusedVariables false
set_option linter.unusedSimpArgs false
set_option maxRecDepth 1000000
set_option maxHeartbeats 16000000
namespace Go.Proofs.YtaeedepojpablaaGreatDoor
open Go.RowKit
theorem refAtomBad_any (aA : Option Addr) (an ac : Nat) (bv : Value) (ds : List GDecl) (Al : Option Addr) (nl cl : Nat) (l : Kinds) (rel : ByteArray) (A : Option Addr) (n c : Nat) (args : List GTold) (agg col : Int) (w : World)
 (hD : SliceIs Enc.decl w w.heap.size aA an ac ds) (ha : SliceIs Enc.told w w.heap.size A n c args) (hl : SliceIs Enc.kp w w.heap.size Al nl cl l) :
 Calls Tryz.prog 31 #[.agg #[.slice aA an ac, bv], .slice Al nl cl, .agg #[.string rel, .slice A n c], .int .i64 agg, .int .i64 col] w (IntPost (atomErr ds l ⟨rel, args⟩ agg col) w) := by
 have mixed : Tryz.prog.follows .mixedOrders = true := by kernel_rfl
 obtain ⟨V, hV⟩ : ∃ V, V = (w.alloc (.cells #[.slice aA an ac, bv] 34)).alloc (.cells #[.string rel, .slice A n c] 62) := ⟨_, rfl⟩
 have HVe := hZ9 hV.symm; have hbV : Below w.heap.size w V := by rw [hV]; exact belowA (belowA (Below.refl _ _) _) _
 have hr0 : V.heap[w.heap.size]? = some (.cells #[.slice aA an ac, bv] 34 (0, 0)) := by rw [hV]; exact heapOld (heapNew rfl)
 have hr1 : V.heap[w.heap.size + 1]? = some (.cells #[.string rel, .slice A n c] 62 (0, 0)) := by rw [hV]; exact heapNew (by simp)
 have hgl0 := (glt hr0)
 have hgl1 := (glt hr1)
 obtain ⟨c0, c0'⟩ := facts2 hr0; obtain ⟨c1, c2⟩ := facts2 hr1; have HD := hZ9 (hD.keep hbV); have HA := hZ9 (ha.keep hbV); have HLl := hZ9 (hl.keep hbV); have HI := hZ9 (tyRefIndex_any aA an ac bv ds rel V HD.out)
 have HRow : Hid (∀ W, Below V.heap.size V W → W.cell? ⟨w.heap.size, 0, none⟩ = some (.slice aA an ac) ∧ W.cell? ⟨w.heap.size + 1, 1, none⟩ = some (.slice A n c)) := fun W hW =>
  ⟨(facts2 ((hW.block _ hgl0).trans hr0)).1, (facts2 ((hW.block _ hgl1).trans hr1)).2⟩
 have hn := ha.bound; have Hlen := hZ9 ha.1; have Hdl := hZ9 hD.1; have HbV := hZ9 hbV; obtain ⟨P, HP⟩ : ∃ P : Ending → World → Prop, Hid (P = IntPost (atomErr ds l ⟨rel, args⟩ agg col) w) := ⟨_, rfl⟩
 rw [← HP.out]
 have HEnd : Hid (∀ W v, atomErr ds l ⟨rel, args⟩ agg col = v → Below V.heap.size V W → P (.returned (.int .i64 v)) W) := fun W v h1 h2 => by
  rw [HP.out]; exact ⟨by rw [h1], HbV.out.trans (h2.mono HbV.out.size)⟩
 clear hV hbV hr0 hr1 hD ha hl; go_enter Tryz.func31, Tryz.ntmps31
 go_wp2_with (rw [HVe.out])
 refine HI.out.mono ?_; rintro e w1 ⟨rfl, hb1⟩; have HB1 := hZ9 hb1; obtain ⟨fr, Hfr⟩ : ∃ fr, Hid (idxI (idxD ds rel) = fr) := ⟨_, rfl⟩
 rw [Hfr.out]; obtain ⟨d0, d1⟩ := HRow.out w1 hb1; clear hb1 HI c0 c0' c1 c2; cases hi : idxD ds rel with
 | none =>
   obtain rfl : fr = -1 := by rw [← Hfr.out, hi]; rfl
   have HE := hZ9 (HEnd.out w1 5 (by unfold atomErr; rw [if_pos hi]) HB1.out); clear hi Hfr HEnd; go_wp2_with fail
   first | exact HE.out | (go_ret2; exact HE.out)
 | some i0 =>
   obtain rfl : fr = (i0 : Int) := by rw [← Hfr.out, hi]; rfl
   have hlt0 := idxD_lt hi; have hlt1 : i0 < an := by have := Hdl.out; omega
   obtain ⟨db, dof, dd, da, rfl, hdb, hdd, hdat, z0, z1, z2⟩ := HD.out.decl_at hlt1; obtain ⟨kA, kn, kc⟩ := da; dsimp only [Hd.v] at z1; have hkd : kindsD ds rel = dd.kinds := kindsD_some hi hdd.out; have HKs := hZ9 hdat.kinds; have Hkl : Hid (dd.kinds.length = kn) := hdat.kinds.1; have d2 : w1.cell? ⟨db, dof + i0 * 3 + 1, none⟩ = some (.slice kA kn kc) := below_cell HB1.out z1; have a0 : ¬ (i0 : Int) < 0 := by omega
   have a1 : (0 : Int) ≤ (i0 : Int) := by omega
   have a2 : (i0 : Int) < (an : Int) := by omega
   have HAe : Hid (atomErr ds l ⟨rel, args⟩ agg col = if kn ≠ n then 6 else if okArgs l agg col dd.kinds (args.drop 0) 0 = true then 0 else 7) := by
    show _ = _; unfold atomErr; dsimp only; rw [if_neg (by rw [hi]; simp), hkd, Hkl.out, Hlen.out, List.drop_zero]
   clear hi Hfr hkd hdat hdd z0 z1 z2 hlt0; by_cases hnk : kn = n
   rotate_left
   ·have HE := hZ9 (HEnd.out w1 6 (HAe.out.trans (if_pos hnk)) HB1.out); have e1 : ((kn : Int) != (n : Int)) = true := by simp; omega
    clear HAe HEnd; go_wp2_with fail
    first | exact HE.out | (go_ret2; exact HE.out)
   have HAe3 := hZ9 (HAe.out.trans (if_neg (fun q => q hnk))); subst hnk; have e1 : ((kn : Int) != (kn : Int)) = false := by simp
   clear HAe; go_wp2_with fail
   clear d0 d1 d2; go_loopw [13, 14] (fun i _ wr => ∃ k : Nat, k ≤ kn ∧ i = .int .i64 (k : Int) ∧ Hid (atomErr ds l ⟨rel, args⟩ agg col = if okArgs l agg col dd.kinds (args.drop k) k = true then 0 else 7) ∧ Hid (Below V.heap.size V wr)) (fun i _ _ => kn - (intOf i).toNat)
   case atStart => exact ⟨0, by omega, rfl, HAe3, HB1⟩
   case round =>
    clear HAe3 HB1; obtain ⟨k, hk, rfl, HEk, HBk⟩ := hrel; obtain ⟨-, d1⟩ := HRow.out wr HBk.out; by_cases hlt : k < kn
    ·have i0' : (0 : Int) ≤ (k : Int) := by omega
     have i1 : (k : Int) < (kn : Int) := by omega
     obtain ⟨b, o, x, rfl, hbb, hx, y0, y1, y2, y3, -, -⟩ := (HA.out.keep HBk.out).told_at hlt; obtain ⟨b2, o2, kk, rfl, hbb2, hkk, u0, -⟩ := (HKs.out.keep HBk.out).int_at hlt
     have HCs : Hid (∀ W, Below wr.heap.size wr W → W.cell? ⟨w.heap.size + 1, 1, none⟩ = some (.slice (some ⟨b, o, none⟩) kn c) ∧ (W.cell? ⟨b, o + k * 4, none⟩ = some (.string x.x) ∧ W.cell? ⟨b, o + k * 4 + 1, none⟩ = some (.int .i64 x.v.k) ∧ W.cell? ⟨b, o + k * 4 + 2, none⟩ = some (.int .i64 x.v.n) ∧ W.cell? ⟨b, o + k * 4 + 3, none⟩ = some (.string x.v.s)) ∧ W.cell? ⟨b2, o2 + k, none⟩ = some (.int .i64 kk)) := fun W hW =>
      ⟨below_cell hW d1, ⟨below_cell hW y0, below_cell hW y1, below_cell hW y2, below_cell hW y3⟩, below_cell hW u0⟩
     have HFi := hZ9 (fun W (hW : Below wr.heap.size wr W) (q : Int) => refFits_any Al nl cl l x.x x.v.k x.v.n x.v.s q W ((HLl.out.keep HBk.out).keep hW)); obtain ⟨B1, hB1⟩ : ∃ B1, Hid (fitsK l ⟨x.x, ⟨x.v.k, x.v.n, x.v.s⟩⟩ kk = B1) := ⟨_, rfl⟩
     obtain ⟨B2, hB2⟩ : ∃ B2, Hid (fitsK l ⟨x.x, ⟨x.v.k, x.v.n, x.v.s⟩⟩ 1 = B2) := ⟨_, rfl⟩
     have HF1 : Hid (∀ W, Below wr.heap.size wr W → Calls Tryz.prog 66 #[.slice Al nl cl, .agg #[.string x.x, .int .i64 x.v.k, .int .i64 x.v.n, .string x.v.s], .int .i64 kk] W (FitsPost B1 W)) := fun W hW => by rw [← hB1.out]; exact HFi.out W hW kk
     have HF2 : Hid (∀ W, Below wr.heap.size wr W → Calls Tryz.prog 66 #[.slice Al nl cl, .agg #[.string x.x, .int .i64 x.v.k, .int .i64 x.v.n, .string x.v.s], .int .i64 1] W (FitsPost B2 W)) := fun W hW => by rw [← hB2.out]; exact HFi.out W hW 1
     have HOk : Hid (okArg l agg col k x kk = if (k : Int) = col ∧ agg = 1 then decide (kk = 1) else if (k : Int) = col ∧ agg = 2 then decide (kk = 1) && B2 else B1) := by
      show okArg _ _ _ _ _ _ = _; unfold okArg; rw [show fitsK l x kk = B1 from hB1.out, show fitsK l x 1 = B2 from hB2.out]
     have HSt : Hid (okArgs l agg col dd.kinds (args.drop k) k = (okArg l agg col k x kk && okArgs l agg col dd.kinds (args.drop (k + 1)) (k + 1))) := by
      show _ = _; rw [okArgs_step hx.out, List.getD_eq_getElem?_getD, hkk.out]; rfl
     have HYes : Hid (okArg l agg col k x kk = true → atomErr ds l ⟨rel, args⟩ agg col = if okArgs l agg col dd.kinds (args.drop (k + 1)) (k + 1) = true then 0 else 7) := fun h => by rw [HEk.out, HSt.out, h, Bool.true_and]
     have HNo : Hid (∀ W, okArg l agg col k x kk = false → Below V.heap.size V W → P (.returned (.int .i64 7)) W) := fun W h hW => HEnd.out W 7 (by rw [HEk.out, HSt.out, h, Bool.false_and]; rfl) hW
     clear hx hkk HFi HSt HEk hB1 hB2 y0 y1 y2 y3 u0; go_wp2_with fail
     clear d1; refine drawnS mixed _ (Below wr.heap.size wr) rfl (by kernel_rfl) rfl (Below.drew (Below.refl _ _)) ?_
     iterate 10
      apply seqS_op
      ·intro W hW; obtain ⟨k0, ⟨k1, k2, k3, k4⟩, k5⟩ := HCs.out W hW; go_wp2_with fail
       exact ⟨rfl, rfl, fun d hd => by cases hd; simp only [List.getElem?_toArray, List.getElem?_cons_succ, List.getElem?_cons_zero]; rfl, hW⟩
      simp only [Act.put, List.setIfInBounds_toArray, List.set_cons_succ, List.set_cons_zero]
     apply seqS_op
     ·intro W hW; go_wp2_with fail
      refine (HF1.out W hW).mono ?_; rintro e w1 ⟨rfl, hb1⟩; go_wp2_with fail
      exact ⟨rfl, rfl, fun d hd => by cases hd; simp only [List.getElem?_toArray, List.getElem?_cons_succ, List.getElem?_cons_zero]; rfl, hW.trans (hb1.mono hW.size)⟩
     simp only [Act.put, List.setIfInBounds_toArray, List.set_cons_succ, List.set_cons_zero]
     iterate 1
      apply seqS_op
      ·intro W hW; go_wp2_with fail
       exact ⟨rfl, rfl, fun d hd => by cases hd; simp only [List.getElem?_toArray, List.getElem?_cons_succ, List.getElem?_cons_zero]; rfl, hW⟩
      simp only [Act.put, List.setIfInBounds_toArray, List.set_cons_succ, List.set_cons_zero]
     apply seqS_end; intro W hW; have HW := hZ9 hW; have HBW : Hid (Below V.heap.size V W) := HBk.out.trans (hW.mono HBk.out.size); obtain ⟨k0, ⟨k1, k2, k3, k4⟩, k5⟩ := HCs.out W hW; clear hW HF1; by_cases hcol : (k : Int) = col
     ·have f1 : ((k : Int) == col) = true := by simpa using hcol
      by_cases hg1 : agg = 1
      ·have g1 : (agg == 1) = true := by simpa using hg1
       have g2 : (agg == 2) = false := by subst hg1; rfl
       have HB : Hid (okArg l agg col k x kk = decide (kk = 1)) := HOk.out.trans (if_pos ⟨hcol, hg1⟩); have hkb : (kk == 1) = decide (kk = 1) := rfl; generalize decide (kk = 1) = B at HB hkb; clear hg1 hcol HOk HF2; cases B with
       | true =>
         have HE3 := hZ9 (HYes.out HB.out); clear HYes HNo HB; go_wp2_with fail
         go_roundw
         case rel => exact ⟨k + 1, by omega, by go_num, HE3, HBW⟩
         case measure => simp [intOf]; omega
       | false =>
         have HE := hZ9 (HNo.out W HB.out HBW.out); clear HYes HNo HB; go_wp2_with fail
         first | exact HE.out | (go_ret2; exact HE.out)
      ·have g1 : (agg == 1) = false := by simpa using hg1
       by_cases hg2 : agg = 2
       ·have g2 : (agg == 2) = true := by simpa using hg2
        have HB : Hid (okArg l agg col k x kk = (decide (kk = 1) && B2)) := HOk.out.trans ((if_neg (fun q => hg1 q.2)).trans (if_pos ⟨hcol, hg2⟩)); have HC2 := hZ9 (HF2.out W HW.out); clear hg1 hg2 hcol HOk HF2; by_cases hk1 : kk = 1
        ·subst hk1; have HB' : Hid (okArg l agg col k x 1 = B2) := by show _ = _; rw [HB.out]; simp
         clear HB; go_wp2_with fail
         refine HC2.out.mono ?_; rintro e w2 ⟨rfl, hb2⟩; have HB2 : Hid (Below V.heap.size V w2) := HBW.out.trans (hb2.mono HBW.out.size); clear hb2 HC2 k0 k1 k2 k3 k4 k5; generalize B2 = B at HB'; cases B with
         | true =>
           have HE3 := hZ9 (HYes.out HB'.out); clear HYes HNo HB'; go_wp2_with fail
           go_roundw
           case rel => exact ⟨k + 1, by omega, by go_num, HE3, HB2⟩
           case measure => simp [intOf]; omega
         | false =>
           have HE := hZ9 (HNo.out w2 HB'.out HB2.out); clear HYes HNo HB'; go_wp2_with fail
           first | exact HE.out | (go_ret2; exact HE.out)
        ·have e3 : (kk == 1) = false := by simpa using hk1
         have HB' : Hid (okArg l agg col k x kk = false) := by show _ = _; rw [HB.out]; simp [hk1]
         have HE := hZ9 (HNo.out W HB'.out HBW.out); clear HYes HNo HB HB' HC2 hk1; go_wp2_with fail
         first | exact HE.out | (go_ret2; exact HE.out)
       ·have g2 : (agg == 2) = false := by simpa using hg2
        have HB : Hid (okArg l agg col k x kk = B1) := HOk.out.trans ((if_neg (fun q => hg1 q.2)).trans (if_neg (fun q => hg2 q.2))); clear hg1 hg2 hcol HOk HF2 k0 k1 k2 k3 k4 k5; generalize B1 = B at *; cases B with
        | true =>
          have HE3 := hZ9 (HYes.out HB.out); clear HYes HNo HB; go_wp2_with fail
          go_roundw
          case rel => exact ⟨k + 1, by omega, by go_num, HE3, HBW⟩
          case measure => simp [intOf]; omega
        | false =>
          have HE := hZ9 (HNo.out W HB.out HBW.out); clear HYes HNo HB; go_wp2_with fail
          first | exact HE.out | (go_ret2; exact HE.out)
     ·have f1 : ((k : Int) == col) = false := by simpa using hcol
      have HB : Hid (okArg l agg col k x kk = B1) := HOk.out.trans ((if_neg (fun q => hcol q.1)).trans (if_neg (fun q => hcol q.1))); clear hcol HOk HF2 k0 k1 k2 k3 k4 k5; generalize B1 = B at *; cases B with
      | true =>
        have HE3 := hZ9 (HYes.out HB.out); clear HYes HNo HB; go_wp2_with fail
        go_roundw
        case rel => exact ⟨k + 1, by omega, by go_num, HE3, HBW⟩
        case measure => simp [intOf]; omega
      | false =>
        have HE := hZ9 (HNo.out W HB.out HBW.out); clear HYes HNo HB; go_wp2_with fail
        first | exact HE.out | (go_ret2; exact HE.out)
    ·have i1 : ¬ (k : Int) < (kn : Int) := by omega
     have HE := hZ9 (HEnd.out wr 0 (by rw [HEk.out, List.drop_of_length_le (by have := Hlen.out; omega)]; rfl) HBk.out); clear HEk HBk HEnd; go_wp2_with fail
     first | exact HE.out | (go_ret2; exact HE.out)
end Go.Proofs.YtaeedepojpablaaGreatDoor

namespace Go.Proofs.YtaeedepojpablaaGreatDoor
open Go.RowKit
theorem bad_no {l : Kinds} {y : GLit} {k : Nat} (h : (sdK y k).op ≠ 0 ∨ 3 ≤ y.op → ∀ t ∈ leavesE (sdK y k), fitsK l t 1 = true) : ¬ badK l y k := by
 rintro ⟨h1, h2⟩; obtain ⟨t, ht, hb⟩ := List.any_eq_true.1 h2; rw [h h1 t ht] at hb; cases hb
theorem bad_yes {l : Kinds} {y : GLit} {k m : Nat} {t : GTold} (h : (sdK y k).op ≠ 0 ∨ 3 ≤ y.op) (ht : (leavesE (sdK y k))[m]? = some t) (hf : fitsK l t 1 = false) : badK l y k :=
 ⟨h, List.any_eq_true.2 ⟨t, List.mem_of_getElem? ht, by rw [hf]; rfl⟩⟩
theorem refCmpBad_any (d : Nat) (z : GLit) (a p q : Hd) (Al : Option Addr) (nl cl : Nat) (l : Kinds) (w : World) (hl : SliceIs Enc.kp w w.heap.size Al nl cl l) (hz : LitAt d w w.heap.size z a p q) (hrz : rightLit z = true) :
 Calls Tryz.prog 33 #[.slice Al nl cl, .agg (litC z a p q).toArray] w (IntPost (cmpErr l z) w) := by
 have mixed : Tryz.prog.follows .mixedOrders = true := by kernel_rfl
 obtain ⟨pA, pn, pc⟩ := p; obtain ⟨qA, qn, qc⟩ := q; obtain ⟨V, hV⟩ : ∃ V, V = w.alloc (.cells (litC z a ⟨pA, pn, pc⟩ ⟨qA, qn, qc⟩).toArray 107) := ⟨_, rfl⟩
 have HVe := hZ9 hV.symm; have hb : Below w.heap.size w V := by rw [hV]; exact belowA (Below.refl _ _) _
 have hr : V.heap[w.heap.size]? = some (.cells (litC z a ⟨pA, pn, pc⟩ ⟨qA, qn, qc⟩).toArray 107 (0, 0)) := by rw [hV]; exact heapNew rfl
 have hgl := (glt hr)
 have HB := hZ9 hb; have HLb : Hid (∀ W, Below V.heap.size V W → LitBox W w.heap.size z pA pn pc qA qn qc) := fun W hW => litBox ((hW.block _ hgl).trans hr)
 have HLl := hZ9 (hl.keep hb); have Hlz := hZ9 (hz.keep hb); have HLv : Hid (∀ k, (leavesE (sdK z k)).length ≤ 1048576) := leaves_sd hrz; obtain ⟨P, HP⟩ : ∃ P : Ending → World → Prop, Hid (P = IntPost (cmpErr l z) w) := ⟨_, rfl⟩
 rw [← HP.out]
 have HBad : Hid (∀ W j, j < 2 → badK l z j → Below V.heap.size V W → P (.returned (.int .i64 7)) W) := fun W j hj h1 h2 => by
  rw [HP.out]; exact ⟨by rw [cmpErr_bad hj h1], HB.out.trans (h2.mono HB.out.size)⟩
 have HGood : Hid (∀ W v, (∀ j, j < 2 → ¬ badK l z j) → (if sideK l z.l ≠ sideK l z.r ∧ sideK l z.l ≠ 0 ∧ sideK l z.r ≠ 0 then 7 else 0) = v → Below V.heap.size V W → P (.returned (.int .i64 v)) W) := fun W v h1 hv h2 => by
  rw [HP.out]; exact ⟨by rw [cmpErr_good h1, hv], HB.out.trans (h2.mono HB.out.size)⟩
 obtain ⟨-, g3, ⟨g4, g5, g6, g7, g8, g9⟩, g10, g11, g12, g13, g14, g15⟩ := HLb.out V (Below.refl _ _); obtain ⟨Q2, hQ2⟩ : ∃ Q2, Q2 = V.alloc (.cells #[.int .i64 z.l.op, .string z.l.t.x, .int .i64 z.l.t.v.k, .int .i64 z.l.t.v.n, .string z.l.t.v.s, .slice pA pn pc, .int .i64 z.r.op, .string z.r.t.x, .int .i64 z.r.t.v.k, .int .i64 z.r.t.v.n, .string z.r.t.v.s, .slice qA qn qc] 105) := ⟨_, rfl⟩
 have HQ2e := hZ9 hQ2.symm; obtain ⟨sb, Hsb⟩ : ∃ sb, Hid (V.heap.size = sb) := ⟨_, rfl⟩
 have hbQ2 : Below V.heap.size V Q2 := by rw [hQ2]; exact belowA (Below.refl _ _) _
 have hrQ2 : Q2.heap[sb]? = some (.cells #[.int .i64 z.l.op, .string z.l.t.x, .int .i64 z.l.t.v.k, .int .i64 z.l.t.v.n, .string z.l.t.v.s, .slice pA pn pc, .int .i64 z.r.op, .string z.r.t.x, .int .i64 z.r.t.v.k, .int .i64 z.r.t.v.n, .string z.r.t.v.s, .slice qA qn qc] 105 (0, 0)) := by rw [hQ2]; exact heapNew Hsb.out
 have hsl := (glt hrQ2)
 have HSide : Hid (∀ k, k < 2 → ∃ (e : GExp) (eA : Option Addr) (en ec : Nat), sdK z k = e ∧ SliceIs (Enc.exp d) V V.heap.size eA en ec e.kids ∧ ∀ W, Below Q2.heap.size Q2 W →
  W.cell? ⟨sb, k * 6, none⟩ = some (.int .i64 e.op) ∧ W.cell? ⟨sb, k * 6 + 1, none⟩ = some (.string e.t.x) ∧ W.cell? ⟨sb, k * 6 + 2, none⟩ = some (.int .i64 e.t.v.k) ∧ W.cell? ⟨sb, k * 6 + 3, none⟩ = some (.int .i64 e.t.v.n) ∧ W.cell? ⟨sb, k * 6 + 4, none⟩ = some (.string e.t.v.s) ∧ W.cell? ⟨sb, k * 6 + 5, none⟩ = some (.slice eA en ec)) := fun k hk2 => by
  rcases (show k = 0 ∨ k = 1 by omega) with rfl | rfl
  ·refine ⟨z.l, pA, pn, pc, rfl, Hlz.out.lk, fun W hW => ?_⟩; have hr := (hW.block _ hsl).trans hrQ2; exact ⟨(cell_of_row _ _ 0 _ _ _ hr).trans rfl, (cell_of_row _ _ 1 _ _ _ hr).trans rfl, (cell_of_row _ _ 2 _ _ _ hr).trans rfl, (cell_of_row _ _ 3 _ _ _ hr).trans rfl, (cell_of_row _ _ 4 _ _ _ hr).trans rfl, (cell_of_row _ _ 5 _ _ _ hr).trans rfl⟩
  ·refine ⟨z.r, qA, qn, qc, rfl, Hlz.out.rk, fun W hW => ?_⟩; have hr := (hW.block _ hsl).trans hrQ2; exact ⟨(cell_of_row _ _ 6 _ _ _ hr).trans rfl, (cell_of_row _ _ 7 _ _ _ hr).trans rfl, (cell_of_row _ _ 8 _ _ _ hr).trans rfl, (cell_of_row _ _ 9 _ _ _ hr).trans rfl, (cell_of_row _ _ 10 _ _ _ hr).trans rfl, (cell_of_row _ _ 11 _ _ _ hr).trans rfl⟩
 have HBQ2 := hZ9 hbQ2; clear hV hb hr hl hz hrz hQ2 hrQ2 hbQ2 Hlz; go_enter Tryz.func33, Tryz.ntmps33
 go_wp2_with (first | rw [HVe.out] | rw [HQ2e.out] | rw [Hsb.out])
 clear g3 g4 g5 g6 g7 g8 g9 g10 g11 g12 g13 g14 g15; go_loopw [6, 7, 8, 17] (fun _ _ _ i wr => ∃ k : Nat, k ≤ 2 ∧ i = .int .i64 (k : Int) ∧ Hid (∀ j, j < k → ¬ badK l z j) ∧ Hid (Below Q2.heap.size Q2 wr)) (fun _ _ _ i _ => 2 - (intOf i).toNat)
 case atStart => exact ⟨0, by omega, rfl, (fun j hj => by omega), Below.refl _ _⟩
 case round =>
  obtain ⟨k, hk, rfl, Hno, HBk⟩ := hrel; have i0 : (0 : Int) ≤ (k : Int) := by omega
  have hBV : Below V.heap.size V wr := HBQ2.out.trans (HBk.out.mono HBQ2.out.size); have HBV := hZ9 hBV; by_cases hk2 : k < 2
  ·have i1 : (k : Int) < 2 := by omega
   obtain ⟨e, eA, en, ec, hse, hkk, hcell⟩ := HSide.out k hk2; obtain ⟨x0, x1, x2, x3, x4, x5⟩ := hcell wr HBk.out; obtain ⟨Q3, hQ3⟩ : ∃ Q3, Q3 = wr.alloc (.cells (expC e eA en ec).toArray 105) := ⟨_, rfl⟩
   have HQ3e := hZ9 hQ3.symm; have hbQ3 : Below wr.heap.size wr Q3 := by rw [hQ3]; exact belowA (Below.refl _ _) _
   obtain ⟨eb, Heb⟩ : ∃ eb, Hid (eb = wr.heap.size) := ⟨_, rfl⟩
   have hrQ3 : Q3.heap[wr.heap.size]? = some (.cells (expC e eA en ec).toArray 105 (0, 0)) := by rw [hQ3]; exact heapNew rfl
   have hgQ3 := (glt hrQ3)
   have HEc : Hid (∀ W, Below Q3.heap.size Q3 W → W.cell? ⟨eb, 0, none⟩ = some (.int .i64 e.op)) := fun W hW => by rw [Heb.out]; exact (cell_of_row _ _ 0 _ _ _ ((hW.block _ hgQ3).trans hrQ3)).trans rfl
   obtain ⟨y0, y1, y2, y3, y4, y5⟩ := facts6 hrQ3; have HBQ3 : Hid (Below Q2.heap.size Q2 Q3) := HBk.out.trans (hbQ3.mono HBk.out.size); have HBV3 : Hid (Below V.heap.size V Q3) := hBV.trans (hbQ3.mono hBV.size); have HLe := HLv.out k; rw [hse] at HLe; have HTm := hZ9 (refTerms_any Q3.heap.size d e eA en ec none 0 0 [] Q3 (hkk.keep HBV3.out) (Nat.le_refl _) rfl (World.ownsRow_nil _ _ _ _) (by omega)); rw [List.nil_append] at HTm; have HYes := hZ9 (fun W m t (hc : e.op ≠ 0 ∨ 3 ≤ z.op) (ht : (leavesE e)[m]? = some t) (hf : fitsK l t 1 = false) (hW : Below V.heap.size V W) => HBad.out W k hk2 (bad_yes (k := k) (m := m) (by rw [hse]; exact hc) (by rw [hse]; exact ht) hf) hW)
   have HNoK : Hid ((e.op ≠ 0 ∨ 3 ≤ z.op → ∀ t ∈ leavesE e, fitsK l t 1 = true) → ∀ j, j < k + 1 → ¬ badK l z j) := fun h j hj => by
    rcases (show j < k ∨ j = k by omega) with h1 | rfl
    ·exact Hno.out j h1
    ·exact bad_no (by rw [hse]; exact h)
   obtain ⟨L, HL⟩ : ∃ L, Hid (leavesE e = L) := ⟨_, rfl⟩
   rw [HL.out] at HTm HLe HYes HNoK; clear hQ3 hbQ3 hrQ3 hcell hkk hse Hno hBV; go_wp2_with (rw [HQ3e.out])
   refine HTm.out.mono ?_; rintro r w4 ⟨At, ct, rfl, ho4, hb4, hz4, -⟩; have HOT := hZ9 ho4; have HB4 := hZ9 hb4; have HB4V : Hid (Below V.heap.size V w4) := HBV3.out.trans (hb4.mono HBV3.out.size); have HB4Q : Hid (Below Q2.heap.size Q2 w4) := HBQ3.out.trans (hb4.mono HBQ3.out.size); obtain ⟨Ln, HLn⟩ : ∃ Ln, Hid (L.length = Ln) := ⟨_, rfl⟩
   have hLn : Ln ≤ 1048576 := by rw [← HLn.out]; exact HLe
   rw [HLn.out, ← Heb.out]; clear ho4 hb4 hz4 HTm y0 y1 y2 y3 y4 y5 x0 x1 x2 x3 x4 x5; go_wp2_with fail
   go_loopw [8] (fun i wr => ∃ m : Nat, m ≤ Ln ∧ i = .int .i64 (m : Int) ∧ Hid (e.op ≠ 0 ∨ 3 ≤ z.op → ∀ t ∈ L.take m, fitsK l t 1 = true) ∧ Hid (Below w4.heap.size w4 wr)) (fun i _ => Ln - (intOf i).toNat)
   case atStart => exact ⟨0, by omega, rfl, (fun _ t ht => by simp at ht), Below.refl _ _⟩
   case round =>
    obtain ⟨m, hm, rfl, HFm, HBm⟩ := hrel; have m0 : (0 : Int) ≤ (m : Int) := by omega
    have hB3 : Below Q3.heap.size Q3 wr := HB4.out.trans (HBm.out.mono HB4.out.size); have HBVm : Hid (Below V.heap.size V wr) := HB4V.out.trans (HBm.out.mono HB4V.out.size); have f0 := HEc.out wr hB3; have f3 := (HLb.out wr HBVm.out).op; by_cases hml : m < Ln
    ·have m1 : (m : Int) < (Ln : Int) := by omega
     have hsl := tv_own (own_below HOT.out HBm.out) (by have := HLn.out; omega); rw [HLn.out] at hsl; obtain ⟨tb, to_, t, rfl, htb, htm, t0, t1, t2, t3⟩ := hsl.tv_at hml; have HFt := hZ9 (refFits_any Al nl cl l t.x t.v.k t.v.n t.v.s 1 wr (HLl.out.keep HBVm.out)); obtain ⟨B, hB⟩ : ∃ B, Hid (fitsK l ⟨t.x, ⟨t.v.k, t.v.n, t.v.s⟩⟩ 1 = B) := ⟨_, rfl⟩
     rw [hB.out] at HFt; have HBt : Hid (fitsK l t 1 = B) := hB.out
     have HNx : Hid ((B = true ∨ ¬ (e.op ≠ 0 ∨ 3 ≤ z.op)) → (e.op ≠ 0 ∨ 3 ≤ z.op → ∀ t ∈ L.take (m + 1), fitsK l t 1 = true)) := fun hb hc u hu => by
      rw [List.take_add_one, htm.out] at hu; rcases List.mem_append.1 hu with hu | hu
      ·exact HFm.out hc u hu
      ·simp at hu
       subst hu; rcases hb with hb | hb
       ·rw [HBt.out]; exact hb
       ·exact absurd hc hb
     have HY2 := hZ9 (fun W (hc : e.op ≠ 0 ∨ 3 ≤ z.op) (hf : B = false) hW => HYes.out W m t hc htm.out (HBt.out.trans hf) hW); clear hsl htm hB HBt HFm hB3
     have hcase : (e.op = 0 ∧ ¬ 3 ≤ z.op) ∨ (e.op = 0 ∧ 3 ≤ z.op) ∨ e.op ≠ 0 := by
      by_cases h : e.op = 0
      ·by_cases h3 : 3 ≤ z.op
       ·exact .inr (.inl ⟨h, h3⟩)
       ·exact .inl ⟨h, h3⟩
      ·exact .inr (.inr h)
     rcases hcase with ⟨h0, h3⟩ | ⟨h0, h3⟩ | h0
     ·have e1 : (e.op != 0) = false := by simpa using h0
      have HN2 := hZ9 (HNx.out (.inr (by rintro (h | h); exact h h0; exact h3 h))); clear h0 HNx HY2 HFt; go_wp2_with fail
      go_roundw
      case rel => exact ⟨m + 1, by omega, by go_num, HN2, HBm⟩
      case measure => simp [intOf]; omega
     ·have e1 : (e.op != 0) = false := by simpa using h0
      clear h0; go_wp2_with fail
      refine HFt.out.mono ?_; rintro r w5 ⟨rfl, hb5⟩; have HB5 : Hid (Below w4.heap.size w4 w5) := HBm.out.trans (hb5.mono HBm.out.size); have HB5V : Hid (Below V.heap.size V w5) := HBVm.out.trans (hb5.mono HBVm.out.size); clear hb5 HFt f0 f3 t0 t1 t2 t3; cases B with
      | true =>
        have HN2 := hZ9 (HNx.out (.inl rfl)); clear HNx HY2; go_wp2_with fail
        go_roundw
        case rel => exact ⟨m + 1, by omega, by go_num, HN2, HB5⟩
        case measure => simp [intOf]; omega
      | false =>
        have HE := hZ9 (HY2.out w5 (.inr h3) rfl HB5V.out); clear HNx HY2; go_wp2_with fail
        first | exact HE.out | (go_ret2; exact HE.out)
     ·have e1 : (e.op != 0) = true := by simpa using h0
      go_wp2_with fail
      refine HFt.out.mono ?_; rintro r w5 ⟨rfl, hb5⟩; have HB5 : Hid (Below w4.heap.size w4 w5) := HBm.out.trans (hb5.mono HBm.out.size); have HB5V : Hid (Below V.heap.size V w5) := HBVm.out.trans (hb5.mono HBVm.out.size); clear hb5 HFt f0 f3 t0 t1 t2 t3; cases B with
      | true =>
        have HN2 := hZ9 (HNx.out (.inl rfl)); clear HNx HY2 h0; go_wp2_with fail
        go_roundw
        case rel => exact ⟨m + 1, by omega, by go_num, HN2, HB5⟩
        case measure => simp [intOf]; omega
      | false =>
        have HE := hZ9 (HY2.out w5 (.inl h0) rfl HB5V.out); clear HNx HY2 h0; go_wp2_with fail
        first | exact HE.out | (go_ret2; exact HE.out)
    ·have m1 : ¬ (m : Int) < (Ln : Int) := by omega
     have HN2 := hZ9 (HNoK.out (by have := HFm.out; rw [List.take_of_length_le (by have := HLn.out; omega)] at this; exact this)); have HBw : Hid (Below Q2.heap.size Q2 wr) := HB4Q.out.trans (HBm.out.mono HB4Q.out.size); clear HNoK HYes HFm hB3 f0 f3; go_wp2_with fail
     go_roundw
     case rel => exact ⟨k + 1, by omega, by go_num, HN2, HBw⟩
     case measure => simp [intOf]; omega
  ·have i1 : ¬ (k : Int) < 2 := by omega
   obtain rfl : k = 2 := by omega
   have HC1 : Hid (∀ W, Below wr.heap.size wr W → LitBox W w.heap.size z pA pn pc qA qn qc) := fun W hW => HLb.out W (HBV.out.trans (hW.mono HBV.out.size))
   obtain ⟨sa, Hsa⟩ : ∃ sa, Hid (sideK l z.l = sa) := ⟨_, rfl⟩
   obtain ⟨s2, Hs2⟩ : ∃ s2, Hid (sideK l z.r = s2) := ⟨_, rfl⟩
   have HSd1 : Hid (∀ W, Below wr.heap.size wr W → Calls Tryz.prog 43 #[.slice Al nl cl, .agg #[.int .i64 z.l.op, .string z.l.t.x, .int .i64 z.l.t.v.k, .int .i64 z.l.t.v.n, .string z.l.t.v.s, .slice pA pn pc]] W (fun r w' => r = .returned (.int .i64 sa) ∧ Below W.heap.size W w')) := fun W hW => by rw [← Hsa.out]; exact refSide_any Al nl cl l z.l pA pn pc W ((HLl.out.keep HBV.out).keep hW)
   have HSd2 : Hid (∀ W, Below wr.heap.size wr W → Calls Tryz.prog 43 #[.slice Al nl cl, .agg #[.int .i64 z.r.op, .string z.r.t.x, .int .i64 z.r.t.v.k, .int .i64 z.r.t.v.n, .string z.r.t.v.s, .slice qA qn qc]] W (fun r w' => r = .returned (.int .i64 s2) ∧ Below W.heap.size W w')) := fun W hW => by rw [← Hs2.out]; exact refSide_any Al nl cl l z.r qA qn qc W ((HLl.out.keep HBV.out).keep hW)
   have HEn : Hid (∀ W v, (if sa ≠ s2 ∧ sa ≠ 0 ∧ s2 ≠ 0 then (7 : Int) else 0) = v → Below wr.heap.size wr W → P (.returned (.int .i64 v)) W) := fun W v h1 h2 => HGood.out W v Hno.out (by rw [Hsa.out, Hs2.out]; exact h1) (HBV.out.trans (h2.mono HBV.out.size))
   clear HBad HGood Hno HBk HBV HLl HLb HSide HLv; go_wp2_with fail
   refine drawnS mixed _ (Below wr.heap.size wr) rfl (by kernel_rfl) rfl (Below.drew (Below.refl _ _)) ?_
   iterate 3
    apply seqS_op
    ·intro W hW; obtain ⟨-, -, ⟨k1, k2, k3, k4, k5, k6⟩, k7, k8, k9, k10, k11, k12⟩ := HC1.out W hW; go_wp2_with fail
     exact ⟨rfl, rfl, fun d hd => by cases hd; simp only [List.getElem?_toArray, List.getElem?_cons_succ, List.getElem?_cons_zero]; rfl, hW⟩
    simp only [Act.put, List.setIfInBounds_toArray, List.set_cons_succ, List.set_cons_zero]
   apply seqS_op
   ·intro W hW; go_wp2_with fail
    refine (HSd1.out W hW).mono ?_; rintro e w1 ⟨rfl, hb1⟩; go_wp2_with fail
    exact ⟨rfl, rfl, fun d hd => by cases hd; simp only [List.getElem?_toArray, List.getElem?_cons_succ, List.getElem?_cons_zero]; rfl, hW.trans (hb1.mono hW.size)⟩
   simp only [Act.put, List.setIfInBounds_toArray, List.set_cons_succ, List.set_cons_zero]
   iterate 3
    apply seqS_op
    ·intro W hW; obtain ⟨-, -, ⟨k1, k2, k3, k4, k5, k6⟩, k7, k8, k9, k10, k11, k12⟩ := HC1.out W hW; go_wp2_with fail
     exact ⟨rfl, rfl, fun d hd => by cases hd; simp only [List.getElem?_toArray, List.getElem?_cons_succ, List.getElem?_cons_zero]; rfl, hW⟩
    simp only [Act.put, List.setIfInBounds_toArray, List.set_cons_succ, List.set_cons_zero]
   apply seqS_op
   ·intro W hW; go_wp2_with fail
    refine (HSd2.out W hW).mono ?_; rintro e w1 ⟨rfl, hb1⟩; go_wp2_with fail
    exact ⟨rfl, rfl, fun d hd => by cases hd; simp only [List.getElem?_toArray, List.getElem?_cons_succ, List.getElem?_cons_zero]; rfl, hW.trans (hb1.mono hW.size)⟩
   simp only [Act.put, List.setIfInBounds_toArray, List.set_cons_succ, List.set_cons_zero]
   iterate 2
    apply seqS_op
    ·intro W hW; go_wp2_with fail
     exact ⟨rfl, rfl, fun d hd => by cases hd; simp only [List.getElem?_toArray, List.getElem?_cons_succ, List.getElem?_cons_zero]; rfl, hW⟩
    simp only [Act.put, List.setIfInBounds_toArray, List.set_cons_succ, List.set_cons_zero]
   apply seqS_end; intro W hW; have HW := hZ9 hW; clear hW HC1 HSd1 HSd2 Hsa Hs2; by_cases hab : sa = s2
   ·have HE := hZ9 (HEn.out W 0 (if_neg (fun q => q.1 hab)) HW.out); have e3 : (sa != s2) = false := by simpa using hab
    clear HEn hab; go_wp2_with fail
    first | exact HE.out | (go_ret2; exact HE.out)
   have e3 : (sa != s2) = true := by simpa using hab
   by_cases ha : sa = 0
   ·have HE := hZ9 (HEn.out W 0 (if_neg (fun q => q.2.1 ha)) HW.out); have e1 : (sa != 0) = false := by simpa using ha
    clear HEn ha hab; go_wp2_with fail
    first | exact HE.out | (go_ret2; exact HE.out)
   have e1 : (sa != 0) = true := by simpa using ha
   by_cases hbb : s2 = 0
   ·have HE := hZ9 (HEn.out W 0 (if_neg (fun q => q.2.2 hbb)) HW.out); have e2 : (s2 != 0) = false := by simpa using hbb
    clear HEn ha hbb hab; go_wp2_with fail
    first | exact HE.out | (go_ret2; exact HE.out)
   have e2 : (s2 != 0) = true := by simpa using hbb
   have HE := hZ9 (HEn.out W 7 (if_pos ⟨hab, ha, hbb⟩) HW.out); clear HEn ha hbb hab; go_wp2_with fail
   first | exact HE.out | (go_ret2; exact HE.out)
end Go.Proofs.YtaeedepojpablaaGreatDoor
