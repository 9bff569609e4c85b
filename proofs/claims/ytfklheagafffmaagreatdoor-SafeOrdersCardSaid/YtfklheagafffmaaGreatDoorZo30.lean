/- My own texts SdS, as far as this claim needs them. -/
import Derived.Test.YtfklheagafffmaaGreatDoorZo28
import Derived.Test.YtfklheagafffmaaGreatDoorZo29
set_option linter.unusedVariables false
set_option linter.unusedSimpArgs false
namespace Go.Proofs.YtfklheagafffmaaGreatDoor
open Go.RowKit
set_option maxRecDepth 100000 in
set_option maxHeartbeats 16000000 in
theorem refSets_any (d : Nat) (SA : Option Addr) (sn sc : Nat) (S : List ByteArray) (x : GLit) (a p q : Hd) (w : World) (hS : SliceIs Enc.str w w.heap.size SA sn sc S) (hx : LitAt d w w.heap.size x a p q) (hsz : (insideL x).length ≤ 1500) :
    Calls Tryz.prog 31 #[.slice SA sn sc, .agg (litC x a p q).toArray] w (RetBool (setsB S x) w) := by
  have mixed : Tryz.prog.follows .mixedOrders = true := by kernel_rfl
  have hyu : undef = Value.tuple #[] := rfl
  have hrb : (w.alloc (.cells (litC x a p q).toArray 54)).heap[w.heap.size]? = some (.cells (litC x a p q).toArray 54 (0, 0)) := heapNew rfl
  have hbw : Below w.heap.size w (w.alloc (.cells (litC x a p q).toArray 54)) := belowA (Below.refl _ _) _
  obtain ⟨b0, b1, b2, b3, b4, b5, b6, b7, b8, b9, b10, b11, b12, b13, b14, b15, b16⟩ := facts17 hrb
  have HB := Lib.hid hbw
  have HR := Lib.hid hrb
  have HV := Lib.hid (hS.keep hbw)
  have HX := Lib.hid (hx.keep hbw)
  clear hS hx hbw hrb
  by_cases h0 : x.k = 3
  rotate_left
  · have Hr : Hid (setsB S x = false) := by show _ = _; unfold setsB; simp [h0]
    clear hsz HX HV HR
    go_enter Tryz.func31, Tryz.ntmps31
    go_wp2_with fail
    go_ret
    exact ⟨by rw [Hr.out]; rfl, HB.out⟩
  by_cases h1 : x.op = 1
  rotate_left
  · have Hr : Hid (setsB S x = false) := by show _ = _; unfold setsB; simp [h1]
    clear hsz HX HV HR
    go_enter Tryz.func31, Tryz.ntmps31
    go_wp2_with fail
    go_ret
    exact ⟨by rw [Hr.out]; rfl, HB.out⟩
  have Hr : Hid (setsB S x = (sideB S x.l x.r || sideB S x.r x.l)) := by show _ = _; unfold setsB; simp [h0, h1]
  go_enter Tryz.func31, Tryz.ntmps31
  go_wp2_with fail
  generalize w.alloc (.cells (litC x a p q).toArray 54) = V at *
  have HZ : Hid (w.heap.size < V.heap.size) := (Array.getElem?_eq_some_iff.1 HR.out).1
  have HA1 := Lib.hid (fun W => refAlone_any x.l p.A p.n p.c W HX.out.lk.1)
  have HA2 := Lib.hid (fun W => refAlone_any x.r q.A q.n q.c W HX.out.rk.1)
  refine drawnS mixed _ (Below V.heap.size V) rfl (by kernel_rfl) rfl (Below.drew (Below.refl _ _)) ?_
  apply seqS_op
  · intro W hW
    go_wp2_with fail
    exact ⟨rfl, rfl, fun d hd => by cases hd; simp only [List.getElem?_toArray, List.getElem?_cons_succ, List.getElem?_cons_zero]; rfl, hW⟩
  simp only [Act.put, List.setIfInBounds_toArray, List.set_cons_succ, List.set_cons_zero]
  apply seqS_op
  · intro W hW
    obtain ⟨-, -, -, -, k4, k5, k6, k7, k8, k9, -⟩ := facts17 ((hW.block _ HZ.out).trans HR.out)
    go_wp2_with fail
    exact ⟨rfl, rfl, fun d hd => by cases hd; simp only [List.getElem?_toArray, List.getElem?_cons_succ, List.getElem?_cons_zero]; rfl, hW⟩
  simp only [Act.put, List.setIfInBounds_toArray, List.set_cons_succ, List.set_cons_zero]
  apply seqS_op
  · intro W hW
    go_wp2_with fail
    refine (HA1.out W).mono ?_
    rintro e w1 ⟨rfl, hb1⟩
    go_wp2_with fail
    exact ⟨rfl, rfl, fun d hd => by cases hd; simp only [List.getElem?_toArray, List.getElem?_cons_succ, List.getElem?_cons_zero]; rfl, hW.trans (hb1.mono hW.size)⟩
  simp only [Act.put, List.setIfInBounds_toArray, List.set_cons_succ, List.set_cons_zero]
  apply seqS_op
  · intro W hW
    go_wp2_with fail
    exact ⟨rfl, rfl, fun d hd => by cases hd; simp only [List.getElem?_toArray, List.getElem?_cons_succ, List.getElem?_cons_zero]; rfl, hW⟩
  simp only [Act.put, List.setIfInBounds_toArray, List.set_cons_succ, List.set_cons_zero]
  apply seqS_op
  · intro W hW
    obtain ⟨-, -, -, -, -, -, -, -, -, -, k10, k11, k12, k13, k14, k15, -⟩ := facts17 ((hW.block _ HZ.out).trans HR.out)
    go_wp2_with fail
    exact ⟨rfl, rfl, fun d hd => by cases hd; simp only [List.getElem?_toArray, List.getElem?_cons_succ, List.getElem?_cons_zero]; rfl, hW⟩
  simp only [Act.put, List.setIfInBounds_toArray, List.set_cons_succ, List.set_cons_zero]
  apply seqS_op
  · intro W hW
    go_wp2_with fail
    refine (HA2.out W).mono ?_
    rintro e w1 ⟨rfl, hb1⟩
    go_wp2_with fail
    exact ⟨rfl, rfl, fun d hd => by cases hd; simp only [List.getElem?_toArray, List.getElem?_cons_succ, List.getElem?_cons_zero]; rfl, hW.trans (hb1.mono hW.size)⟩
  simp only [Act.put, List.setIfInBounds_toArray, List.set_cons_succ, List.set_cons_zero]
  apply seqS_op
  · intro W hW
    go_wp2_with fail
    exact ⟨rfl, rfl, fun d hd => by cases hd; simp only [List.getElem?_toArray, List.getElem?_cons_succ, List.getElem?_cons_zero]; rfl, hW⟩
  simp only [Act.put, List.setIfInBounds_toArray, List.set_cons_succ, List.set_cons_zero]
  apply seqS_op
  · intro W hW
    go_wp2_with fail
    exact ⟨rfl, rfl, fun d hd => by cases hd; simp only [List.getElem?_toArray, List.getElem?_cons_succ, List.getElem?_cons_zero]; rfl, hW⟩
  simp only [Act.put, List.setIfInBounds_toArray, List.set_cons_succ, List.set_cons_zero]
  apply seqS_end
  intro W1 hW1
  have HVW : Hid (∀ W, Below W1.heap.size W1 W → SliceIs Enc.str W W.heap.size SA sn sc S) := fun W hW => (HV.out.keep hW1).keep hW
  have HRW : Hid (∀ W, Below W1.heap.size W1 W → W.heap[w.heap.size]? = some (.cells (litC x a p q).toArray 54 (0, 0))) := fun W hW => (hW.block _ (by have := hW1.size; have := HZ.out; omega)).trans ((hW1.block _ HZ.out).trans HR.out)
  have hq1 : Below W1.heap.size W1 W1 := Below.refl _ _
  have HBW : Hid (Below w.heap.size w W1) := HB.out.trans (hW1.mono HB.out.size)
  have HXW : Hid (∀ W, Below W1.heap.size W1 W → LitAt d W W.heap.size x a p q) := fun W hW => (HX.out.keep hW1).keep hW
  have Hs1 : Hid (sideB S x.l x.r = (!(aloneE x.l).toList.isEmpty && (!hasB S (aloneE x.l) && allB S (varsE x.r)))) := rfl
  have Hs2 : Hid (sideB S x.r x.l = (!(aloneE x.r).toList.isEmpty && (!hasB S (aloneE x.r) && allB S (varsE x.l)))) := rfl
  have Hf : Hid (setsB S x = (!(aloneE x.l).toList.isEmpty && (!hasB S (aloneE x.l) && allB S (varsE x.r)) || !(aloneE x.r).toList.isEmpty && (!hasB S (aloneE x.r) && allB S (varsE x.l)))) := by
    show _ = _
    rw [Hr.out, Hs1.out, Hs2.out]
  clear HA1 HA2 hW1 HV HX HR HB hyu Hr Hs1 Hs2
  generalize aloneE x.l = sl at *
  generalize aloneE x.r = sr at *
  have HzL : Hid (sl.toList.isEmpty = decide (sl.size = 0)) := ba_emptyS sl
  have HzR : Hid (sr.toList.isEmpty = decide (sr.size = 0)) := ba_emptyS sr
  rw [HzL.out, HzR.out] at Hf
  obtain ⟨rb, Hrb⟩ : ∃ rb, Hid ((!decide (sl.size = 0) && (!hasB S sl && allB S (varsE x.r)) || !decide (sr.size = 0) && (!hasB S sr && allB S (varsE x.l))) = rb) := ⟨_, rfl⟩
  have hsl : (leavesE x.l).length ≤ 1500 := by unfold insideL at hsz; simp only [List.length_append] at hsz; omega
  have hsr : (leavesE x.r).length ≤ 1500 := by unfold insideL at hsz; simp only [List.length_append] at hsz; omega
  have HHas1 := Lib.hid (fun (W : World) (hW : Below W1.heap.size W1 W) => has_any SA sn sc S sl W (HVW.out W hW))
  have HHas2 := Lib.hid (fun (W : World) (hW : Below W1.heap.size W1 W) => has_any SA sn sc S sr W (HVW.out W hW))
  have HOfL := Lib.hid (fun (W : World) (hW : Below W1.heap.size W1 W) => refOf_any d x.l p.A p.n p.c W (HXW.out W hW).lk (HXW.out W hW).lx (HXW.out W hW).lv hsl)
  have HOfR := Lib.hid (fun (W : World) (hW : Below W1.heap.size W1 W) => refOf_any d x.r q.A q.n q.c W (HXW.out W hW).rk (HXW.out W hW).rx (HXW.out W hW).rv hsr)
  have HLenL : Hid ((varsE x.l).length ≤ 1000000) := by have := putL_le0 (leavesE x.l); show (putL [] _).length ≤ _; omega
  have HLenR : Hid ((varsE x.r).length ≤ 1000000) := by have := putL_le0 (leavesE x.r); show (putL [] _).length ≤ _; omega
  have HSzL : Hid (∀ s ∈ varsE x.l, s.size ≤ reachN) := fun s hs => by
    obtain ⟨t, ht, rfl, -⟩ := varsE_has.1 hs
    exact (leaves_ok d x.l p.A p.n p.c W1 _ (HXW.out W1 hq1).lk (HXW.out W1 hq1).lx (HXW.out W1 hq1).lv t ht).1
  have HSzR : Hid (∀ s ∈ varsE x.r, s.size ≤ reachN) := fun s hs => by
    obtain ⟨t, ht, rfl, -⟩ := varsE_has.1 hs
    exact (leaves_ok d x.r q.A q.n q.c W1 _ (HXW.out W1 hq1).rk (HXW.out W1 hq1).rx (HXW.out W1 hq1).rv t ht).1
  have HE : Hid (∀ W, Below W1.heap.size W1 W → RetBool (setsB S x) w (.returned (.bool rb)) W) := fun W hW => ⟨by rw [Hf.out, Hrb.out], HBW.out.trans (hW.mono HBW.out.size)⟩
  clear hsl hsr hsz
  by_cases e1 : sl.size = 0
  · by_cases e2 : sr.size = 0
    · obtain rfl : rb = false := by rw [← Hrb.out]; simp [e1, e2]
      have i1 : ¬ (0 : Int) < (sl.size : Int) := by omega
      have i2 : ¬ (0 : Int) < (sr.size : Int) := by omega
      clear e1 e2
      go_wp2_with fail
      first
        | (go_ret; exact HE.out W1 hq1)
        | exact HE.out W1 hq1
    · cases h2 : hasB S sr with
      | true =>
        obtain rfl : rb = false := by rw [← Hrb.out]; simp [e1, e2, h2]
        have i1 : ¬ (0 : Int) < (sl.size : Int) := by omega
        have i2 : (0 : Int) < (sr.size : Int) := by omega
        clear e1 e2
        go_wp2_with fail
        refine (HHas2.out W1 hq1).mono ?_
        rintro e Y2 ⟨rfl, hb2⟩
        have hy2 : Below W1.heap.size W1 Y2 := hq1.trans (hb2.mono hq1.size)
        have HD2 : Hid (decide (sr ∈ S) = true) := h2
        clear hb2
        rw [HD2.out]
        go_wp2_with fail
        first
          | (go_ret; exact HE.out Y2 hy2)
          | exact HE.out Y2 hy2
      | false =>
        cases a2 : allB S (varsE x.l) with
        | false =>
          obtain rfl : rb = false := by rw [← Hrb.out]; simp [e1, e2, h2, a2]
          have i1 : ¬ (0 : Int) < (sl.size : Int) := by omega
          have i2 : (0 : Int) < (sr.size : Int) := by omega
          clear e1 e2
          go_wp2_with fail
          refine (HHas2.out W1 hq1).mono ?_
          rintro e Y2 ⟨rfl, hb2⟩
          have hy2 : Below W1.heap.size W1 Y2 := hq1.trans (hb2.mono hq1.size)
          have HD2 : Hid (decide (sr ∈ S) = false) := h2
          clear hb2
          rw [HD2.out]
          obtain ⟨-, -, -, -, kb4, kb5, kb6, kb7, kb8, kb9, -⟩ := facts17 (HRW.out Y2 hy2)
          go_wp2_with fail
          refine (HOfL.out Y2 hy2).mono ?_
          rintro e X2 ⟨A2, d2, rfl, ho2, hb2⟩
          have hx2 : Below W1.heap.size W1 X2 := hy2.trans (hb2.mono hy2.size)
          have HC2 := Lib.hid (refAll09_any SA sn sc S A2 _ d2 _ X2 (HVW.out X2 hx2) (TextsPost.is ho2 HLenL.out HSzL.out))
          rw [a2] at HC2
          clear ho2 hb2
          go_wp2_with fail
          refine HC2.out.mono ?_
          rintro e Z2 ⟨rfl, hc2⟩
          have hz2 : Below W1.heap.size W1 Z2 := hx2.trans (hc2.mono hx2.size)
          clear hc2
          go_wp2_with fail
          first
            | (go_ret; exact HE.out Z2 hz2)
            | exact HE.out Z2 hz2
        | true =>
          obtain rfl : rb = true := by rw [← Hrb.out]; simp [e1, e2, h2, a2]
          have i1 : ¬ (0 : Int) < (sl.size : Int) := by omega
          have i2 : (0 : Int) < (sr.size : Int) := by omega
          clear e1 e2
          go_wp2_with fail
          refine (HHas2.out W1 hq1).mono ?_
          rintro e Y2 ⟨rfl, hb2⟩
          have hy2 : Below W1.heap.size W1 Y2 := hq1.trans (hb2.mono hq1.size)
          have HD2 : Hid (decide (sr ∈ S) = false) := h2
          clear hb2
          rw [HD2.out]
          obtain ⟨-, -, -, -, kb4, kb5, kb6, kb7, kb8, kb9, -⟩ := facts17 (HRW.out Y2 hy2)
          go_wp2_with fail
          refine (HOfL.out Y2 hy2).mono ?_
          rintro e X2 ⟨A2, d2, rfl, ho2, hb2⟩
          have hx2 : Below W1.heap.size W1 X2 := hy2.trans (hb2.mono hy2.size)
          have HC2 := Lib.hid (refAll09_any SA sn sc S A2 _ d2 _ X2 (HVW.out X2 hx2) (TextsPost.is ho2 HLenL.out HSzL.out))
          rw [a2] at HC2
          clear ho2 hb2
          go_wp2_with fail
          refine HC2.out.mono ?_
          rintro e Z2 ⟨rfl, hc2⟩
          have hz2 : Below W1.heap.size W1 Z2 := hx2.trans (hc2.mono hx2.size)
          clear hc2
          go_wp2_with fail
          first
            | (go_ret; exact HE.out Z2 hz2)
            | exact HE.out Z2 hz2
  · cases h1 : hasB S sl with
    | true =>
      by_cases e2 : sr.size = 0
      · obtain rfl : rb = false := by rw [← Hrb.out]; simp [e1, h1, e2]
        have i1 : (0 : Int) < (sl.size : Int) := by omega
        have i2 : ¬ (0 : Int) < (sr.size : Int) := by omega
        clear e1 e2
        go_wp2_with fail
        refine (HHas1.out W1 hq1).mono ?_
        rintro e Y1 ⟨rfl, hb1⟩
        have hy1 : Below W1.heap.size W1 Y1 := hq1.trans (hb1.mono hq1.size)
        have HD1 : Hid (decide (sl ∈ S) = true) := h1
        clear hb1
        rw [HD1.out]
        go_wp2_with fail
        first
          | (go_ret; exact HE.out Y1 hy1)
          | exact HE.out Y1 hy1
      · cases h2 : hasB S sr with
        | true =>
          obtain rfl : rb = false := by rw [← Hrb.out]; simp [e1, h1, e2, h2]
          have i1 : (0 : Int) < (sl.size : Int) := by omega
          have i2 : (0 : Int) < (sr.size : Int) := by omega
          clear e1 e2
          go_wp2_with fail
          refine (HHas1.out W1 hq1).mono ?_
          rintro e Y1 ⟨rfl, hb1⟩
          have hy1 : Below W1.heap.size W1 Y1 := hq1.trans (hb1.mono hq1.size)
          have HD1 : Hid (decide (sl ∈ S) = true) := h1
          clear hb1
          rw [HD1.out]
          go_wp2_with fail
          refine (HHas2.out Y1 hy1).mono ?_
          rintro e Y2 ⟨rfl, hb2⟩
          have hy2 : Below W1.heap.size W1 Y2 := hy1.trans (hb2.mono hy1.size)
          have HD2 : Hid (decide (sr ∈ S) = true) := h2
          clear hb2
          rw [HD2.out]
          go_wp2_with fail
          first
            | (go_ret; exact HE.out Y2 hy2)
            | exact HE.out Y2 hy2
        | false =>
          cases a2 : allB S (varsE x.l) with
          | false =>
            obtain rfl : rb = false := by rw [← Hrb.out]; simp [e1, h1, e2, h2, a2]
            have i1 : (0 : Int) < (sl.size : Int) := by omega
            have i2 : (0 : Int) < (sr.size : Int) := by omega
            clear e1 e2
            go_wp2_with fail
            refine (HHas1.out W1 hq1).mono ?_
            rintro e Y1 ⟨rfl, hb1⟩
            have hy1 : Below W1.heap.size W1 Y1 := hq1.trans (hb1.mono hq1.size)
            have HD1 : Hid (decide (sl ∈ S) = true) := h1
            clear hb1
            rw [HD1.out]
            go_wp2_with fail
            refine (HHas2.out Y1 hy1).mono ?_
            rintro e Y2 ⟨rfl, hb2⟩
            have hy2 : Below W1.heap.size W1 Y2 := hy1.trans (hb2.mono hy1.size)
            have HD2 : Hid (decide (sr ∈ S) = false) := h2
            clear hb2
            rw [HD2.out]
            obtain ⟨-, -, -, -, kb4, kb5, kb6, kb7, kb8, kb9, -⟩ := facts17 (HRW.out Y2 hy2)
            go_wp2_with fail
            refine (HOfL.out Y2 hy2).mono ?_
            rintro e X2 ⟨A2, d2, rfl, ho2, hb2⟩
            have hx2 : Below W1.heap.size W1 X2 := hy2.trans (hb2.mono hy2.size)
            have HC2 := Lib.hid (refAll09_any SA sn sc S A2 _ d2 _ X2 (HVW.out X2 hx2) (TextsPost.is ho2 HLenL.out HSzL.out))
            rw [a2] at HC2
            clear ho2 hb2
            go_wp2_with fail
            refine HC2.out.mono ?_
            rintro e Z2 ⟨rfl, hc2⟩
            have hz2 : Below W1.heap.size W1 Z2 := hx2.trans (hc2.mono hx2.size)
            clear hc2
            go_wp2_with fail
            first
              | (go_ret; exact HE.out Z2 hz2)
              | exact HE.out Z2 hz2
          | true =>
            obtain rfl : rb = true := by rw [← Hrb.out]; simp [e1, h1, e2, h2, a2]
            have i1 : (0 : Int) < (sl.size : Int) := by omega
            have i2 : (0 : Int) < (sr.size : Int) := by omega
            clear e1 e2
            go_wp2_with fail
            refine (HHas1.out W1 hq1).mono ?_
            rintro e Y1 ⟨rfl, hb1⟩
            have hy1 : Below W1.heap.size W1 Y1 := hq1.trans (hb1.mono hq1.size)
            have HD1 : Hid (decide (sl ∈ S) = true) := h1
            clear hb1
            rw [HD1.out]
            go_wp2_with fail
            refine (HHas2.out Y1 hy1).mono ?_
            rintro e Y2 ⟨rfl, hb2⟩
            have hy2 : Below W1.heap.size W1 Y2 := hy1.trans (hb2.mono hy1.size)
            have HD2 : Hid (decide (sr ∈ S) = false) := h2
            clear hb2
            rw [HD2.out]
            obtain ⟨-, -, -, -, kb4, kb5, kb6, kb7, kb8, kb9, -⟩ := facts17 (HRW.out Y2 hy2)
            go_wp2_with fail
            refine (HOfL.out Y2 hy2).mono ?_
            rintro e X2 ⟨A2, d2, rfl, ho2, hb2⟩
            have hx2 : Below W1.heap.size W1 X2 := hy2.trans (hb2.mono hy2.size)
            have HC2 := Lib.hid (refAll09_any SA sn sc S A2 _ d2 _ X2 (HVW.out X2 hx2) (TextsPost.is ho2 HLenL.out HSzL.out))
            rw [a2] at HC2
            clear ho2 hb2
            go_wp2_with fail
            refine HC2.out.mono ?_
            rintro e Z2 ⟨rfl, hc2⟩
            have hz2 : Below W1.heap.size W1 Z2 := hx2.trans (hc2.mono hx2.size)
            clear hc2
            go_wp2_with fail
            first
              | (go_ret; exact HE.out Z2 hz2)
              | exact HE.out Z2 hz2
    | false =>
      cases a1 : allB S (varsE x.r) with
      | true =>
        obtain rfl : rb = true := by rw [← Hrb.out]; simp [e1, h1, a1]
        have i1 : (0 : Int) < (sl.size : Int) := by omega
        clear e1
        go_wp2_with fail
        refine (HHas1.out W1 hq1).mono ?_
        rintro e Y1 ⟨rfl, hb1⟩
        have hy1 : Below W1.heap.size W1 Y1 := hq1.trans (hb1.mono hq1.size)
        have HD1 : Hid (decide (sl ∈ S) = false) := h1
        clear hb1
        rw [HD1.out]
        obtain ⟨-, -, -, -, -, -, -, -, -, -, ka10, ka11, ka12, ka13, ka14, ka15, -⟩ := facts17 (HRW.out Y1 hy1)
        go_wp2_with fail
        refine (HOfR.out Y1 hy1).mono ?_
        rintro e X1 ⟨A1, d1, rfl, ho1, hb1⟩
        have hx1 : Below W1.heap.size W1 X1 := hy1.trans (hb1.mono hy1.size)
        have HC1 := Lib.hid (refAll09_any SA sn sc S A1 _ d1 _ X1 (HVW.out X1 hx1) (TextsPost.is ho1 HLenR.out HSzR.out))
        rw [a1] at HC1
        clear ho1 hb1
        go_wp2_with fail
        refine HC1.out.mono ?_
        rintro e Z1 ⟨rfl, hc1⟩
        have hz1 : Below W1.heap.size W1 Z1 := hx1.trans (hc1.mono hx1.size)
        clear hc1
        go_wp2_with fail
        first
          | (go_ret; exact HE.out Z1 hz1)
          | exact HE.out Z1 hz1
      | false =>
        by_cases e2 : sr.size = 0
        · obtain rfl : rb = false := by rw [← Hrb.out]; simp [e1, h1, a1, e2]
          have i1 : (0 : Int) < (sl.size : Int) := by omega
          have i2 : ¬ (0 : Int) < (sr.size : Int) := by omega
          clear e1 e2
          go_wp2_with fail
          refine (HHas1.out W1 hq1).mono ?_
          rintro e Y1 ⟨rfl, hb1⟩
          have hy1 : Below W1.heap.size W1 Y1 := hq1.trans (hb1.mono hq1.size)
          have HD1 : Hid (decide (sl ∈ S) = false) := h1
          clear hb1
          rw [HD1.out]
          obtain ⟨-, -, -, -, -, -, -, -, -, -, ka10, ka11, ka12, ka13, ka14, ka15, -⟩ := facts17 (HRW.out Y1 hy1)
          go_wp2_with fail
          refine (HOfR.out Y1 hy1).mono ?_
          rintro e X1 ⟨A1, d1, rfl, ho1, hb1⟩
          have hx1 : Below W1.heap.size W1 X1 := hy1.trans (hb1.mono hy1.size)
          have HC1 := Lib.hid (refAll09_any SA sn sc S A1 _ d1 _ X1 (HVW.out X1 hx1) (TextsPost.is ho1 HLenR.out HSzR.out))
          rw [a1] at HC1
          clear ho1 hb1
          go_wp2_with fail
          refine HC1.out.mono ?_
          rintro e Z1 ⟨rfl, hc1⟩
          have hz1 : Below W1.heap.size W1 Z1 := hx1.trans (hc1.mono hx1.size)
          clear hc1
          go_wp2_with fail
          first
            | (go_ret; exact HE.out Z1 hz1)
            | exact HE.out Z1 hz1
        · cases h2 : hasB S sr with
          | true =>
            obtain rfl : rb = false := by rw [← Hrb.out]; simp [e1, h1, a1, e2, h2]
            have i1 : (0 : Int) < (sl.size : Int) := by omega
            have i2 : (0 : Int) < (sr.size : Int) := by omega
            clear e1 e2
            go_wp2_with fail
            refine (HHas1.out W1 hq1).mono ?_
            rintro e Y1 ⟨rfl, hb1⟩
            have hy1 : Below W1.heap.size W1 Y1 := hq1.trans (hb1.mono hq1.size)
            have HD1 : Hid (decide (sl ∈ S) = false) := h1
            clear hb1
            rw [HD1.out]
            obtain ⟨-, -, -, -, -, -, -, -, -, -, ka10, ka11, ka12, ka13, ka14, ka15, -⟩ := facts17 (HRW.out Y1 hy1)
            go_wp2_with fail
            refine (HOfR.out Y1 hy1).mono ?_
            rintro e X1 ⟨A1, d1, rfl, ho1, hb1⟩
            have hx1 : Below W1.heap.size W1 X1 := hy1.trans (hb1.mono hy1.size)
            have HC1 := Lib.hid (refAll09_any SA sn sc S A1 _ d1 _ X1 (HVW.out X1 hx1) (TextsPost.is ho1 HLenR.out HSzR.out))
            rw [a1] at HC1
            clear ho1 hb1
            go_wp2_with fail
            refine HC1.out.mono ?_
            rintro e Z1 ⟨rfl, hc1⟩
            have hz1 : Below W1.heap.size W1 Z1 := hx1.trans (hc1.mono hx1.size)
            clear hc1
            go_wp2_with fail
            refine (HHas2.out Z1 hz1).mono ?_
            rintro e Y2 ⟨rfl, hb2⟩
            have hy2 : Below W1.heap.size W1 Y2 := hz1.trans (hb2.mono hz1.size)
            have HD2 : Hid (decide (sr ∈ S) = true) := h2
            clear hb2
            rw [HD2.out]
            go_wp2_with fail
            first
              | (go_ret; exact HE.out Y2 hy2)
              | exact HE.out Y2 hy2
          | false =>
            cases a2 : allB S (varsE x.l) with
            | false =>
              obtain rfl : rb = false := by rw [← Hrb.out]; simp [e1, h1, a1, e2, h2, a2]
              have i1 : (0 : Int) < (sl.size : Int) := by omega
              have i2 : (0 : Int) < (sr.size : Int) := by omega
              clear e1 e2
              go_wp2_with fail
              refine (HHas1.out W1 hq1).mono ?_
              rintro e Y1 ⟨rfl, hb1⟩
              have hy1 : Below W1.heap.size W1 Y1 := hq1.trans (hb1.mono hq1.size)
              have HD1 : Hid (decide (sl ∈ S) = false) := h1
              clear hb1
              rw [HD1.out]
              obtain ⟨-, -, -, -, -, -, -, -, -, -, ka10, ka11, ka12, ka13, ka14, ka15, -⟩ := facts17 (HRW.out Y1 hy1)
              go_wp2_with fail
              refine (HOfR.out Y1 hy1).mono ?_
              rintro e X1 ⟨A1, d1, rfl, ho1, hb1⟩
              have hx1 : Below W1.heap.size W1 X1 := hy1.trans (hb1.mono hy1.size)
              have HC1 := Lib.hid (refAll09_any SA sn sc S A1 _ d1 _ X1 (HVW.out X1 hx1) (TextsPost.is ho1 HLenR.out HSzR.out))
              rw [a1] at HC1
              clear ho1 hb1
              go_wp2_with fail
              refine HC1.out.mono ?_
              rintro e Z1 ⟨rfl, hc1⟩
              have hz1 : Below W1.heap.size W1 Z1 := hx1.trans (hc1.mono hx1.size)
              clear hc1
              go_wp2_with fail
              refine (HHas2.out Z1 hz1).mono ?_
              rintro e Y2 ⟨rfl, hb2⟩
              have hy2 : Below W1.heap.size W1 Y2 := hz1.trans (hb2.mono hz1.size)
              have HD2 : Hid (decide (sr ∈ S) = false) := h2
              clear hb2
              rw [HD2.out]
              obtain ⟨-, -, -, -, kb4, kb5, kb6, kb7, kb8, kb9, -⟩ := facts17 (HRW.out Y2 hy2)
              go_wp2_with fail
              refine (HOfL.out Y2 hy2).mono ?_
              rintro e X2 ⟨A2, d2, rfl, ho2, hb2⟩
              have hx2 : Below W1.heap.size W1 X2 := hy2.trans (hb2.mono hy2.size)
              have HC2 := Lib.hid (refAll09_any SA sn sc S A2 _ d2 _ X2 (HVW.out X2 hx2) (TextsPost.is ho2 HLenL.out HSzL.out))
              rw [a2] at HC2
              clear ho2 hb2
              go_wp2_with fail
              refine HC2.out.mono ?_
              rintro e Z2 ⟨rfl, hc2⟩
              have hz2 : Below W1.heap.size W1 Z2 := hx2.trans (hc2.mono hx2.size)
              clear hc2
              go_wp2_with fail
              first
                | (go_ret; exact HE.out Z2 hz2)
                | exact HE.out Z2 hz2
            | true =>
              obtain rfl : rb = true := by rw [← Hrb.out]; simp [e1, h1, a1, e2, h2, a2]
              have i1 : (0 : Int) < (sl.size : Int) := by omega
              have i2 : (0 : Int) < (sr.size : Int) := by omega
              clear e1 e2
              go_wp2_with fail
              refine (HHas1.out W1 hq1).mono ?_
              rintro e Y1 ⟨rfl, hb1⟩
              have hy1 : Below W1.heap.size W1 Y1 := hq1.trans (hb1.mono hq1.size)
              have HD1 : Hid (decide (sl ∈ S) = false) := h1
              clear hb1
              rw [HD1.out]
              obtain ⟨-, -, -, -, -, -, -, -, -, -, ka10, ka11, ka12, ka13, ka14, ka15, -⟩ := facts17 (HRW.out Y1 hy1)
              go_wp2_with fail
              refine (HOfR.out Y1 hy1).mono ?_
              rintro e X1 ⟨A1, d1, rfl, ho1, hb1⟩
              have hx1 : Below W1.heap.size W1 X1 := hy1.trans (hb1.mono hy1.size)
              have HC1 := Lib.hid (refAll09_any SA sn sc S A1 _ d1 _ X1 (HVW.out X1 hx1) (TextsPost.is ho1 HLenR.out HSzR.out))
              rw [a1] at HC1
              clear ho1 hb1
              go_wp2_with fail
              refine HC1.out.mono ?_
              rintro e Z1 ⟨rfl, hc1⟩
              have hz1 : Below W1.heap.size W1 Z1 := hx1.trans (hc1.mono hx1.size)
              clear hc1
              go_wp2_with fail
              refine (HHas2.out Z1 hz1).mono ?_
              rintro e Y2 ⟨rfl, hb2⟩
              have hy2 : Below W1.heap.size W1 Y2 := hz1.trans (hb2.mono hz1.size)
              have HD2 : Hid (decide (sr ∈ S) = false) := h2
              clear hb2
              rw [HD2.out]
              obtain ⟨-, -, -, -, kb4, kb5, kb6, kb7, kb8, kb9, -⟩ := facts17 (HRW.out Y2 hy2)
              go_wp2_with fail
              refine (HOfL.out Y2 hy2).mono ?_
              rintro e X2 ⟨A2, d2, rfl, ho2, hb2⟩
              have hx2 : Below W1.heap.size W1 X2 := hy2.trans (hb2.mono hy2.size)
              have HC2 := Lib.hid (refAll09_any SA sn sc S A2 _ d2 _ X2 (HVW.out X2 hx2) (TextsPost.is ho2 HLenL.out HSzL.out))
              rw [a2] at HC2
              clear ho2 hb2
              go_wp2_with fail
              refine HC2.out.mono ?_
              rintro e Z2 ⟨rfl, hc2⟩
              have hz2 : Below W1.heap.size W1 Z2 := hx2.trans (hc2.mono hx2.size)
              clear hc2
              go_wp2_with fail
              first
                | (go_ret; exact HE.out Z2 hz2)
                | exact HE.out Z2 hz2
end Go.Proofs.YtfklheagafffmaaGreatDoor
