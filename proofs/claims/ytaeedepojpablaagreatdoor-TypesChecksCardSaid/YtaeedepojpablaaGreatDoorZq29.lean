/- My own texts TyAt, TyLw, Load, as far as this claim needs them. -/
import Derived.Test.YtaeedepojpablaaGreatDoorZq28
set_option linter.unusedVariables false
set_option linter.unusedSimpArgs false
set_option maxRecDepth 1000000
set_option maxHeartbeats 16000000
namespace Go.Proofs.YtaeedepojpablaaGreatDoor
open Go.RowKit
theorem okArg_eq (l : Kinds) (agg col : Int) (i : Nat) (t : GTold) (k : Int) : okArg l agg col i t k = if (i : Int) = col then aggFit l agg t k else fitsK l t k := by
 unfold okArg aggFit; by_cases h : (i : Int) = col
 ·simp only [h, true_and, if_true]
 ·simp only [h, false_and, if_false]
theorem okArgs_step {l : Kinds} {agg col : Int} {ks : List Int} {r : List GTold} {k : Nat} {t : GTold} (h : r[k]? = some t) : okArgs l agg col ks (r.drop k) k = (okArg l agg col k t (ks.getD k 0) && okArgs l agg col ks (r.drop (k + 1)) (k + 1)) := by
 obtain ⟨hk, he⟩ := List.getElem?_eq_some_iff.1 h; rw [List.drop_eq_getElem_cons hk, he, okArgs]
theorem atom_any (w0 : World) (g km : Nat) (aA : Option Addr) (an ac : Nat) (bv : Value) (rest : List Value) (agg : Int) (hag : (Value.slice aA an ac :: bv :: rest)[4]? = some (.int .i64 agg)) (l0 l : Kinds) (ds : List GDecl) (hD : SliceIs Enc.decl w0 w0.heap.size aA an ac ds) (hk : ∀ d ∈ ds, d.kinds.length ≤ 10000)
 (rel : ByteArray) (A : Option Addr) (n c : Nat) (args : List GTold) (ha : SliceIs Enc.told w0 w0.heap.size A n c args) (col : Int) (w : World) (h : Scp w0 w g km (.slice aA an ac :: bv :: rest) l0 l) :
 Calls Tryz.prog 62 #[.pointer (some ⟨g, 0, none⟩), .agg #[.string rel, .slice A n c], .int .i64 col] w (IntPost (atomErr ds l ⟨rel, args⟩ agg col) w) := by
 have mixed : Tryz.prog.follows .mixedOrders = true := by kernel_rfl
 obtain ⟨V, hV⟩ : ∃ V, V = w.alloc (.cells #[.string rel, .slice A n c] 53) := ⟨_, rfl⟩
 have HVe := hZ9 hV.symm; have hr : V.heap[w.heap.size]? = some (.cells #[.string rel, .slice A n c] 53 (0, 0)) := by rw [hV]; exact heapNew rfl
 have hb : Below w.heap.size w V := by rw [hV]; exact belowA (Below.refl _ _) _
 have hgl := (glt hr)
 have hs := h.on hb; obtain ⟨c0, c1⟩ := facts2 hr; have x0 := hs.cell (i := 0) rfl; have x1 := hs.cell (i := 1) rfl; have HS := hZ9 hs; have HB := hZ9 hb; have hbd : Below V.heap.size V V.drew := (Below.refl _ _).drew; have HO := hZ9 (ofK_any aA an ac bv ds rel V.drew (hD.mono' (hs.on hbd).b0.size (Kept.of (hs.on hbd).b0.block)) hk); have HA : Hid (∀ W, Below V.heap.size V W → W.cell? ⟨w.heap.size, 1, none⟩ = some (.slice A n c)) := fun W hW => (facts2 ((hW.block _ hgl).trans hr)).2
 have HArg := hZ9 ha; have hn := ha.bound; have Hlen := hZ9 ha.1; have Hag := hZ9 hag; obtain ⟨P, HP⟩ : ∃ P : Ending → World → Prop, Hid (P = IntPost (atomErr ds l ⟨rel, args⟩ agg col) w) := ⟨_, rfl⟩
 rw [← HP.out]; obtain ⟨cs, hcs⟩ : ∃ cs, Hid (Value.slice aA an ac :: bv :: rest = cs) := ⟨_, rfl⟩
 rw [hcs.out] at HS Hag; obtain ⟨ks, hks⟩ : ∃ ks, Hid (kindsD ds rel = ks) := ⟨_, rfl⟩
 obtain ⟨nk, Hnk⟩ : ∃ nk, Hid (ks.length = nk) := ⟨_, rfl⟩
 obtain ⟨bo, Hbo⟩ : ∃ bo, Hid ((idxD ds rel).isSome = bo) := ⟨_, rfl⟩
 unfold OfPost at HO; rw [hks.out, Hnk.out, Hbo.out] at HO; have Hbd := hZ9 hbd
 have HE0 : Hid (∀ W, bo = false → Below V.heap.size V W → P (.returned (.int .i64 5)) W) := fun W h1 h2 => by
  rw [HP.out]; refine ⟨?_, HB.out.trans (h2.mono HB.out.size)⟩; unfold atomErr; rw [if_pos (by have := Hbo.out; rw [h1] at this; simpa using this)]
 have HE1 : Hid (∀ W v, bo = true → atomErr ds l ⟨rel, args⟩ agg col = v → Below V.heap.size V W → P (.returned (.int .i64 v)) W) := fun W v h1 h3 h2 => by
  rw [HP.out]; exact ⟨by rw [h3], HB.out.trans (h2.mono HB.out.size)⟩
 have HAe : Hid (bo = true → atomErr ds l ⟨rel, args⟩ agg col = if nk ≠ n then 6 else if okArgs l agg col ks args 0 = true then 0 else 7) := fun h1 => by
  unfold atomErr; rw [if_neg (by have := Hbo.out; rw [h1] at this; intro e; rw [e] at this; cases this)]; dsimp only; rw [hks.out, Hnk.out, Hlen.out]
 clear h hV hr hb hs hD hk ha hbd hag; go_enter Tryz.func62, Tryz.ntmps62
 go_wp2_with (rw [HVe.out])
 go_region_held3 (fun W => W.cell? ⟨w.heap.size, 0, none⟩ = some (.string rel) ∧ W.cell? ⟨g, 0, none⟩ = some (.slice aA an ac) ∧ W.cell? ⟨g, 1, none⟩ = some bv)
  (go_keep)
  ((first
    | (go_at_call 12
       refine HO.out.mono ?_; rintro e w1 ⟨A1, c1', rfl, hs1, hb1⟩; have HK1 := hZ9 hs1; have HB1 := hZ9 hb1; have k0 : w1.cell? ⟨w.heap.size, 0, none⟩ = some (.string rel) := below_cell hb1 (show V.drew.cell? _ = _ from c0); have k1 : w1.cell? ⟨g, 0, none⟩ = some (.slice aA an ac) := below_cell hb1 (show V.drew.cell? _ = _ from x0); have k2 : w1.cell? ⟨g, 1, none⟩ = some bv := below_cell hb1 (show V.drew.cell? _ = _ from x1)
       clear hs1 hb1)))
 all_goals
  have hb1 : Below V.heap.size V w1 := Hbd.out.trans HB1.out; have Hb1 := hZ9 hb1; have HK2 : Hid (SliceIs Enc.int w1 w1.heap.size A1 nk c1' ks) := HK1.out.is; have d1 := HA.out w1 hb1; clear c0 c1 x0 x1 HK1 HO HB1 Hbd hb1 k0 k1 k2; cases bo with
  | false =>
    have HE := hZ9 (HE0.out w1 rfl Hb1.out); clear HE0 HE1 HAe d1; go_wp2_with fail
    first | exact HE.out | (go_ret2; exact HE.out)
  | true =>
    have HAe2 := hZ9 (HAe.out rfl); have HE2 := hZ9 (fun W v => HE1.out W v rfl); clear HE0 HE1 HAe; by_cases hnk : nk = n
    ·have HAe3 : Hid (atomErr ds l ⟨rel, args⟩ agg col = if okArgs l agg col ks (args.drop 0) 0 = true then 0 else 7) := HAe2.out.trans (if_neg (fun q => q hnk)); subst hnk; have e1 : ((nk : Int) != (nk : Int)) = false := by simp
     clear HAe2; go_wp2_with fail
     clear d1; go_loopw [9, 10, 34] (fun _ _ i wr => ∃ k : Nat, k ≤ nk ∧ i = .int .i64 (k : Int) ∧ Hid (atomErr ds l ⟨rel, args⟩ agg col = if okArgs l agg col ks (args.drop k) k = true then 0 else 7) ∧ Hid (Below V.heap.size V wr) ∧ Hid (SliceIs Enc.int wr wr.heap.size A1 nk c1' ks)) (fun _ _ i _ => nk - (intOf i).toNat)
     case atStart => exact ⟨0, by omega, rfl, HAe3, Hb1, HK2⟩
     case round =>
      clear HAe3 Hb1 HK2; obtain ⟨k, hk, rfl, HEk, HBk, HKk⟩ := hrel; by_cases hlt : k < nk
      ·have i0 : (0 : Int) ≤ (k : Int) := by omega
       have i1 : (k : Int) < (nk : Int) := by omega
       have hb0 := (HS.out.on HBk.out).b0; obtain ⟨b, o, x, rfl, hbb, hx, z0, z1, z2, z3, -, -⟩ := (HArg.out.mono' hb0.size (Kept.of hb0.block)).told_at hlt; obtain ⟨b2, o2, kk, rfl, hbb2, hkk, u0, -⟩ := HKk.out.int_at hlt; obtain ⟨Q, hQ⟩ : ∃ Q, Q = wr.alloc (.cells #[.string x.x, .int .i64 x.v.k, .int .i64 x.v.n, .string x.v.s] 75) := ⟨_, rfl⟩
       have HQe := hZ9 hQ.symm; have hbQ : Below wr.heap.size wr Q := by rw [hQ]; exact belowA (Below.refl _ _) _
       have hrQ : Q.heap[wr.heap.size]? = some (.cells #[.string x.x, .int .i64 x.v.k, .int .i64 x.v.n, .string x.v.s] 75 (0, 0)) := by rw [hQ]; exact heapNew rfl
       have hgQ := (glt hrQ)
       have hBQ : Below V.heap.size V Q := HBk.out.trans (hbQ.mono HBk.out.size); have HBQ := hZ9 hBQ; have HSQ := hZ9 (HS.out.on hBQ)
       have HCs : Hid (∀ W, Below Q.heap.size Q W → (W.cell? ⟨wr.heap.size, 0, none⟩ = some (.string x.x) ∧ W.cell? ⟨wr.heap.size, 1, none⟩ = some (.int .i64 x.v.k) ∧ W.cell? ⟨wr.heap.size, 2, none⟩ = some (.int .i64 x.v.n) ∧ W.cell? ⟨wr.heap.size, 3, none⟩ = some (.string x.v.s)) ∧ W.cell? ⟨b2, o2 + k, none⟩ = some (.int .i64 kk)) := fun W hW =>
        ⟨facts4 ((hW.block _ hgQ).trans hrQ), below_cell hW (below_cell hbQ u0)⟩
       have HKQ := hZ9 (HKk.out.keep hbQ); have HFi := hZ9 (fun W (hW : Below Q.heap.size Q W) => fits_any w0 g km cs l0 l x.x x.v.k x.v.n x.v.s kk W (HSQ.out.on hW)); have HAg := hZ9 (fun W (hW : Below Q.heap.size Q W) => aggregated_any w0 g km cs l0 l agg Hag.out x.x x.v.k x.v.n x.v.s kk W (HSQ.out.on hW))
       have HSt : Hid (okArgs l agg col ks (args.drop k) k = (okArg l agg col k x kk && okArgs l agg col ks (args.drop (k + 1)) (k + 1))) := by
        show _ = _; rw [okArgs_step hx.out, List.getD_eq_getElem?_getD, hkk.out]; rfl
       have HEq := hZ9 (okArg_eq l agg col k x kk); clear hb0 hbQ hrQ hQ hBQ u0 hx hkk; by_cases hcol : (k : Int) = col
       ·have e1 : ((k : Int) == col) = true := by simpa using hcol
        have e2 : ((k : Int) != col) = false := by simpa using hcol
        obtain ⟨B, hB⟩ : ∃ B, Hid (aggFit l agg ⟨x.x, ⟨x.v.k, x.v.n, x.v.s⟩⟩ kk = B) := ⟨_, rfl⟩
        have HOk : Hid (okArg l agg col k x kk = B) := by show _ = _; rw [HEq.out, if_pos hcol]; exact hB.out
        rw [hB.out] at HAg; clear HFi hcol HEq hB; go_wp2_with (rw [HQe.out])
        cases B with
        | true =>
          have HE3 : Hid (atomErr ds l ⟨rel, args⟩ agg col = if okArgs l agg col ks (args.drop (k + 1)) (k + 1) = true then 0 else 7) := by show _ = _; rw [HEk.out, HSt.out, HOk.out, Bool.true_and]
          clear HEk HSt HOk; refine drawnS mixed _ (Below Q.heap.size Q) rfl (by kernel_rfl) rfl (Below.drew (Below.refl _ _)) ?_; have hyu : undef = Value.tuple #[] := rfl
          iterate 10
           apply seqS_op
           ·intro W hW; obtain ⟨⟨k1, k2, k3, k4⟩, k5⟩ := HCs.out W hW; go_wp2_with fail
            exact ⟨rfl, rfl, fun d hd => by cases hd; simp only [List.getElem?_toArray, List.getElem?_cons_succ, List.getElem?_cons_zero]; rfl, hW⟩
           simp only [Act.put, List.setIfInBounds_toArray, List.set_cons_succ, List.set_cons_zero]
          apply seqS_op
          ·intro W hW; go_wp2_with fail
           refine (HAg.out W hW).mono ?_; rintro e w1 ⟨rfl, hb1⟩; go_wp2_with fail
           exact ⟨rfl, rfl, fun d hd => by cases hd; simp only [List.getElem?_toArray, List.getElem?_cons_succ, List.getElem?_cons_zero]; rfl, hW.trans (hb1.mono hW.size)⟩
          simp only [Act.put, List.setIfInBounds_toArray, List.set_cons_succ, List.set_cons_zero]
          iterate 17
           apply seqS_op
           ·intro W hW; go_wp2_with fail
            exact ⟨rfl, rfl, fun d hd => by cases hd; simp only [List.getElem?_toArray, List.getElem?_cons_succ, List.getElem?_cons_zero]; rfl, hW⟩
           simp only [Act.put, List.setIfInBounds_toArray, List.set_cons_succ, List.set_cons_zero]
          clear hyu; apply seqS_end; intro W hW; have HW : Hid (Below V.heap.size V W) := HBQ.out.trans (hW.mono HBQ.out.size); have HKW := hZ9 (HKQ.out.keep hW); clear hW HAg HCs HKQ; go_wp2_with fail
          go_roundw
          case rel => exact ⟨k + 1, by omega, by go_num, HE3, HW, HKW⟩
          case measure => simp [intOf]; omega
        | false =>
          have HE3 : Hid (atomErr ds l ⟨rel, args⟩ agg col = 7) := by show _ = _; rw [HEk.out, HSt.out, HOk.out, Bool.false_and]; rfl
          clear HEk HSt HOk; refine drawnS mixed _ (Below Q.heap.size Q) rfl (by kernel_rfl) rfl (Below.drew (Below.refl _ _)) ?_; have hyu : undef = Value.tuple #[] := rfl
          iterate 10
           apply seqS_op
           ·intro W hW; obtain ⟨⟨k1, k2, k3, k4⟩, k5⟩ := HCs.out W hW; go_wp2_with fail
            exact ⟨rfl, rfl, fun d hd => by cases hd; simp only [List.getElem?_toArray, List.getElem?_cons_succ, List.getElem?_cons_zero]; rfl, hW⟩
           simp only [Act.put, List.setIfInBounds_toArray, List.set_cons_succ, List.set_cons_zero]
          apply seqS_op
          ·intro W hW; go_wp2_with fail
           refine (HAg.out W hW).mono ?_; rintro e w1 ⟨rfl, hb1⟩; go_wp2_with fail
           exact ⟨rfl, rfl, fun d hd => by cases hd; simp only [List.getElem?_toArray, List.getElem?_cons_succ, List.getElem?_cons_zero]; rfl, hW.trans (hb1.mono hW.size)⟩
          simp only [Act.put, List.setIfInBounds_toArray, List.set_cons_succ, List.set_cons_zero]
          iterate 17
           apply seqS_op
           ·intro W hW; go_wp2_with fail
            exact ⟨rfl, rfl, fun d hd => by cases hd; simp only [List.getElem?_toArray, List.getElem?_cons_succ, List.getElem?_cons_zero]; rfl, hW⟩
           simp only [Act.put, List.setIfInBounds_toArray, List.set_cons_succ, List.set_cons_zero]
          clear hyu; apply seqS_end; intro W hW; have HE := hZ9 (HE2.out W 7 HE3.out (HBQ.out.trans (hW.mono HBQ.out.size))); clear hW HAg HCs HKQ HE2; go_wp2_with fail
          first | exact HE.out | (go_ret2; exact HE.out)
       ·have e1 : ((k : Int) == col) = false := by simpa using hcol
        have e2 : ((k : Int) != col) = true := by simpa using hcol
        obtain ⟨B, hB⟩ : ∃ B, Hid (fitsK l ⟨x.x, ⟨x.v.k, x.v.n, x.v.s⟩⟩ kk = B) := ⟨_, rfl⟩
        have HOk : Hid (okArg l agg col k x kk = B) := by show _ = _; rw [HEq.out, if_neg hcol]; exact hB.out
        rw [hB.out] at HFi; clear HAg hcol HEq hB; go_wp2_with (rw [HQe.out])
        cases B with
        | true =>
          have HE3 : Hid (atomErr ds l ⟨rel, args⟩ agg col = if okArgs l agg col ks (args.drop (k + 1)) (k + 1) = true then 0 else 7) := by show _ = _; rw [HEk.out, HSt.out, HOk.out, Bool.true_and]
          clear HEk HSt HOk; refine drawnS mixed _ (Below Q.heap.size Q) rfl (by kernel_rfl) rfl (Below.drew (Below.refl _ _)) ?_; have hyu : undef = Value.tuple #[] := rfl
          iterate 24
           apply seqS_op
           ·intro W hW; obtain ⟨⟨k1, k2, k3, k4⟩, k5⟩ := HCs.out W hW; go_wp2_with fail
            exact ⟨rfl, rfl, fun d hd => by cases hd; simp only [List.getElem?_toArray, List.getElem?_cons_succ, List.getElem?_cons_zero]; rfl, hW⟩
           simp only [Act.put, List.setIfInBounds_toArray, List.set_cons_succ, List.set_cons_zero]
          apply seqS_op
          ·intro W hW; go_wp2_with fail
           refine (HFi.out W hW).mono ?_; rintro e w1 ⟨rfl, hb1⟩; go_wp2_with fail
           exact ⟨rfl, rfl, fun d hd => by cases hd; simp only [List.getElem?_toArray, List.getElem?_cons_succ, List.getElem?_cons_zero]; rfl, hW.trans (hb1.mono hW.size)⟩
          simp only [Act.put, List.setIfInBounds_toArray, List.set_cons_succ, List.set_cons_zero]
          iterate 3
           apply seqS_op
           ·intro W hW; go_wp2_with fail
            exact ⟨rfl, rfl, fun d hd => by cases hd; simp only [List.getElem?_toArray, List.getElem?_cons_succ, List.getElem?_cons_zero]; rfl, hW⟩
           simp only [Act.put, List.setIfInBounds_toArray, List.set_cons_succ, List.set_cons_zero]
          clear hyu; apply seqS_end; intro W hW; have HW : Hid (Below V.heap.size V W) := HBQ.out.trans (hW.mono HBQ.out.size); have HKW := hZ9 (HKQ.out.keep hW); clear hW HFi HCs HKQ; go_wp2_with fail
          go_roundw
          case rel => exact ⟨k + 1, by omega, by go_num, HE3, HW, HKW⟩
          case measure => simp [intOf]; omega
        | false =>
          have HE3 : Hid (atomErr ds l ⟨rel, args⟩ agg col = 7) := by show _ = _; rw [HEk.out, HSt.out, HOk.out, Bool.false_and]; rfl
          clear HEk HSt HOk; refine drawnS mixed _ (Below Q.heap.size Q) rfl (by kernel_rfl) rfl (Below.drew (Below.refl _ _)) ?_; have hyu : undef = Value.tuple #[] := rfl
          iterate 24
           apply seqS_op
           ·intro W hW; obtain ⟨⟨k1, k2, k3, k4⟩, k5⟩ := HCs.out W hW; go_wp2_with fail
            exact ⟨rfl, rfl, fun d hd => by cases hd; simp only [List.getElem?_toArray, List.getElem?_cons_succ, List.getElem?_cons_zero]; rfl, hW⟩
           simp only [Act.put, List.setIfInBounds_toArray, List.set_cons_succ, List.set_cons_zero]
          apply seqS_op
          ·intro W hW; go_wp2_with fail
           refine (HFi.out W hW).mono ?_; rintro e w1 ⟨rfl, hb1⟩; go_wp2_with fail
           exact ⟨rfl, rfl, fun d hd => by cases hd; simp only [List.getElem?_toArray, List.getElem?_cons_succ, List.getElem?_cons_zero]; rfl, hW.trans (hb1.mono hW.size)⟩
          simp only [Act.put, List.setIfInBounds_toArray, List.set_cons_succ, List.set_cons_zero]
          iterate 3
           apply seqS_op
           ·intro W hW; go_wp2_with fail
            exact ⟨rfl, rfl, fun d hd => by cases hd; simp only [List.getElem?_toArray, List.getElem?_cons_succ, List.getElem?_cons_zero]; rfl, hW⟩
           simp only [Act.put, List.setIfInBounds_toArray, List.set_cons_succ, List.set_cons_zero]
          clear hyu; apply seqS_end; intro W hW; have HE := hZ9 (HE2.out W 7 HE3.out (HBQ.out.trans (hW.mono HBQ.out.size))); clear hW HFi HCs HKQ HE2; go_wp2_with fail
          first | exact HE.out | (go_ret2; exact HE.out)
      ·have i1 : ¬ (k : Int) < (nk : Int) := by omega
       have HE := hZ9 (HE2.out wr 0 (by rw [HEk.out, List.drop_of_length_le (by have := Hlen.out; omega)]; rfl) HBk.out); clear HEk HBk HKk HE2; go_wp2_with fail
       first | exact HE.out | (go_ret2; exact HE.out)
    ·have HE := hZ9 (HE2.out w1 6 (HAe2.out.trans (if_pos hnk)) Hb1.out); have e1 : ((nk : Int) != (n : Int)) = true := by simp; omega
     clear HAe2 HE2; go_wp2_with fail
     first | exact HE.out | (go_ret2; exact HE.out)
end Go.Proofs.YtaeedepojpablaaGreatDoor

namespace Go.Proofs.YtaeedepojpablaaGreatDoor
structure Told (vs : List ByteArray) (l l' : Kinds) : Prop where
 ok : KOk l → KOk l'
 keep : ∀ v, kget l v ≠ 0 → kget l' v = kget l v
 names : ∀ p ∈ l', p ∈ l ∨ p.1 ∈ vs
theorem Told.refl (vs : List ByteArray) (l : Kinds) : Told vs l l := ⟨fun h => h, fun _ _ => rfl, fun _ h => .inl h⟩
theorem Told.trans {vs : List ByteArray} {a b c : Kinds} (h : Told vs a b) (k : Told vs b c) : Told vs a c :=
 ⟨fun q => k.ok (h.ok q), fun v hv => (k.keep v (by rw [h.keep v hv]; exact hv)).trans (h.keep v hv), fun p hp => by
  rcases k.names p hp with h1 | h1
  ·exact h.names p h1
  ·exact .inr h1⟩
theorem Told.put {vs : List ByteArray} (l : Kinds) {v : ByteArray} (k : Int) (hv : v ∈ vs) : Told vs l (kput l v k) :=
 ⟨fun h => h.put v k, fun _ h => kput_keep h, fun p hp => by
  rcases kput_in hp with h | h
  ·exact .inl h
  ·exact .inr (h ▸ hv)⟩
theorem Told.args {vs : List ByteArray} {ks : List Int} {but : Int} : ∀ (l : Kinds) (r : List GTold) (i : Nat), (∀ t ∈ r, t.x ∈ vs) → Told vs l (argsK ks but l r i)
 | l, [], _, _ => .refl _ l
 | l, t :: r, i, h => by
   rw [argsK]; refine Told.trans ?_ (Told.args _ r (i + 1) fun u hu => h u (List.mem_cons_of_mem _ hu)); split
   ·exact .put l _ (h t (List.mem_cons_self ..))
   ·exact .refl _ l
theorem Told.numbers {vs : List ByteArray} : ∀ (ts : List GTold) (l : Kinds), (∀ t ∈ ts, t.x ∈ vs) → Told vs l (numbersK l ts)
 | [], l, _ => .refl _ l
 | t :: ts, l, h => (Told.put l 1 (h t (List.mem_cons_self ..))).trans (Told.numbers ts (kput l t.x 1) fun u hu => h u (List.mem_cons_of_mem _ hu))
theorem Told.cmp {vs : List ByteArray} (l : Kinds) (y : GLit) (h : ∀ v ∈ varsY y, v ∈ vs) : Told vs l (cmpK leavesE l y) := by
 have hl : ∀ t ∈ leavesE y.l, t.x ∈ vs := fun t ht => h _ (by unfold varsY; simp only [List.mem_append, List.mem_map]; exact .inr (.inl ⟨t, ht, rfl⟩))
 have hr : ∀ t ∈ leavesE y.r, t.x ∈ vs := fun t ht => h _ (by unfold varsY; simp only [List.mem_append, List.mem_map]; exact .inr (.inr (.inl ⟨t, ht, rfl⟩)))
 have ha : y.l.t.x ∈ vs := h _ (by unfold varsY; simp); have hb : y.r.t.x ∈ vs := h _ (by unfold varsY; simp); unfold cmpK; dsimp only
 have h1 : Told vs l (if y.l.op ≠ 0 ∨ 3 ≤ y.op then numbersK l (leavesE y.l) else l) := by
  split
  ·exact .numbers _ _ hl
  ·exact .refl _ _
 generalize (if y.l.op ≠ 0 ∨ 3 ≤ y.op then numbersK l (leavesE y.l) else l) = l1 at h1
 have h2 : Told vs l1 (if y.r.op ≠ 0 ∨ 3 ≤ y.op then numbersK l1 (leavesE y.r) else l1) := by
  split
  ·exact .numbers _ _ hr
  ·exact .refl _ _
 generalize (if y.r.op ≠ 0 ∨ 3 ≤ y.op then numbersK l1 (leavesE y.r) else l1) = l2 at h2; split
 ·exact h1.trans h2
 ·exact (h1.trans h2).trans ((Told.put l2 _ ha).trans (.put _ _ hb))
theorem Told.round {vs : List ByteArray} : ∀ (b : List GLit) (l : Kinds), (∀ y ∈ b, ∀ v ∈ varsY y, v ∈ vs) → Told vs l (roundK leavesE b l)
 | [], l, _ => .refl _ l
 | y :: b, l, h => by
   show Told vs l (roundK leavesE b (if y.k = 3 then cmpK leavesE l y else l)); refine Told.trans ?_ (Told.round b _ fun z hz => h z (List.mem_cons_of_mem _ hz)); split
   ·exact .cmp l y (h y (List.mem_cons_self ..))
   ·exact .refl _ l
theorem Told.rounds {vs : List ByteArray} {b : List GLit} (h : ∀ y ∈ b, ∀ v ∈ varsY y, v ∈ vs) : ∀ (f : Nat) (l : Kinds), Told vs l (kindsF leavesE b f l)
 | 0, l => .refl _ l
 | f + 1, l => by
   rw [kindsF]; split
   ·exact .refl _ l
   ·exact (Told.round b l h).trans (Told.rounds h f _)
theorem varsR_body {x : GRule} : ∀ y ∈ x.body, ∀ v ∈ varsY y, v ∈ varsR x := fun y hy _ hv => List.mem_append_right _ (List.mem_flatMap.2 ⟨y, hy, hv⟩)
theorem Told.bodyS {ds : List GDecl} {vs : List ByteArray} : ∀ (b : List GLit) (l : Kinds), (∀ y ∈ b, ∀ v ∈ varsY y, v ∈ vs) → Told vs l (b.foldl (fun l y => atomK ds l y.atom (-1)) l)
 | [], l, _ => .refl _ l
 | y :: b, l, h => by
   refine Told.trans ?_ (Told.bodyS b (atomK ds l y.atom (-1)) fun z hz => h z (List.mem_cons_of_mem _ hz)); exact .args _ _ _ fun t ht => h y (List.mem_cons_self ..) _ (by unfold varsY; simp only [List.mem_append, List.mem_map]; exact .inl ⟨t, ht, rfl⟩)
theorem Told.head {ds : List GDecl} {x : GRule} : Told (varsR x) [] (atomK ds [] x.head (colK x)) :=
 .args _ _ _ fun t ht => List.mem_append_left _ (List.mem_map.2 ⟨t, ht, rfl⟩)
theorem Told.start {ds : List GDecl} {x : GRule} : Told (varsR x) [] (startK ds x) := Told.head.trans (Told.bodyS _ _ varsR_body)
theorem Told.most {vs : List ByteArray} {l : Kinds} (h : Told vs [] l) : l.length ≤ vs.length :=
 kinds_most (h.ok KOk.nil) fun p hp => by
  rcases h.names p hp with h1 | h1
  ·cases h1
  ·exact h1
end Go.Proofs.YtaeedepojpablaaGreatDoor

namespace Go.Proofs.YtaeedepojpablaaGreatDoor
open Go.RowKit
theorem run_loadVar_cells {P : Program} (w : World) (g off : Nat) (ty : TypeId) (cs : List Value) (d : TypeDesc) (hc : ∀ j v, cs[j]? = some v → w.cell? ⟨g, off + j, none⟩ = some v)
 (hu : P.underlying ty = some d) (hd : (match d with | .struct _ | .array _ _ => true | _ => false) = true) (hi : (P.info? ty).map (·.size) = some cs.length) :
 (loadVar ty ⟨g, off, none⟩).run P w = .ok (.agg cs.toArray) w := by
 have hl : (loadCells ⟨g, off, none⟩ cs.length).run P w = .ok cs.toArray w :=
  run_loadCells_list (P := P) w ⟨g, off, none⟩ cs (fun j v hv => by
   have hadd : (⟨g, off, none⟩ : Addr).add j = ⟨g, off + j, none⟩ := by unfold Addr.add; split <;> simp_all
   rw [hadd]
   exact hc j v hv)
 cases hq : P.info? ty with
 | none => simp [hq] at hi
 | some i =>
   have hs : i.size = cs.length := by simpa [hq] using hi
   have hagg : (isAgg ty).run P w = .ok true w := by
    unfold isAgg; rw [Sem.run_bind, run_underlying hu w]; cases d <;> simp_all
   simp [loadVar, Sem.run_bind, hagg, sizeOf, typeInfo, hq, hs, hl]
theorem wp_load_cells {P : Program} {o : Oper} {a : Act} {w : World} {K : Act → World → Prop} {Q : Exit → Act → World → Prop} (ty : TypeId) (x : Operand) (ho : o.op = .load ty x)
 (g off : Nat) (hx : a.eval x = .pointer (some ⟨g, off, none⟩)) (cs : List Value) (d : TypeDesc) (hc : ∀ j v, cs[j]? = some v → w.cell? ⟨g, off + j, none⟩ = some v)
 (hu : P.underlying ty = some d) (hd : (match d with | .struct _ | .array _ _ => true | _ => false) = true) (hi : (P.info? ty).map (·.size) = some cs.length)
 (h : K (a.put o.dst (.agg cs.toArray)) w) : o.wp P a w K Q := by
 unfold Oper.wp execOp; simp only [ho, hx, Instr.loadAt, Instr.sureAddr, Sem.run_bind, Sem.run_pure, Result.andThen_ok, run_loadVar_cells w g off ty cs d hc hu hd hi]; exact h
theorem wpList_load_at {P : Program} {ops : Array Oper} {rest : List Oper} {a : Act} {w : World} {Q : Exit → Act → World → Prop} {dst : Option Tmp} {ty : TypeId} {x : Operand} {tt : TypeId} {ps : String} {af : Array Edge} {gd : Option (Nat × Bool)}
 (g off : Nat) (cs : List Value) (d : TypeDesc) (hc : ∀ j v, cs[j]? = some v → w.cell? ⟨g, off + j, none⟩ = some v)
 (hu : P.underlying ty = some d) (hd : (match d with | .struct _ | .array _ _ => true | _ => false) = true) (hi : (P.info? ty).map (·.size) = some cs.length)
 (hx : a.eval x = .pointer (some ⟨g, off, none⟩)) (hw : Region.wanted (Oper.mk dst (.load ty x) tt ps af gd) (yielded ops a.tmps) = true)
 (h : wpList P ops Q rest (a.put dst (.agg cs.toArray)) w) : wpList P ops Q (Oper.mk dst (.load ty x) tt ps af gd :: rest) a w :=
 wpList_step fun K hK => by
  rw [hw, if_pos rfl]; exact wp_load_cells ty x rfl g off hx cs d hc hu hd hi (hK _ _ h)
theorem row_cells {w : World} {g : Nat} {cs : List Value} {t : TypeId} (h : w.heap[g]? = some (.cells cs.toArray t (0, 0))) : ∀ j v, cs[j]? = some v → w.cell? ⟨g, 0 + j, none⟩ = some v := fun j v hv => by
 rw [Nat.zero_add, cell_of_row _ _ j _ _ _ h]; simpa using hv
theorem SliceIs.cells_at {α : Type} {E : Enc α} {w : World} {B : Nat} {A : Option Addr} {n c : Nat} {l : List α} (h : SliceIs E w B A n c l) {i : Nat} (hi : i < n) :
 ∃ b o x cs, A = some ⟨b, o, none⟩ ∧ b < B ∧ Hid (l[i]? = some x) ∧ E.ok w B cs x ∧ ∀ j v, cs[j]? = some v → w.cell? ⟨b, o + i * E.sz + j, none⟩ = some v := h.at_ hi
end Go.Proofs.YtaeedepojpablaaGreatDoor
