/- My own texts SfSets, SfEarly, as far as this claim needs them. -/
import Derived.Test.YtfklheagafffmaaGreatDoorZo28
import Derived.Test.YtfklheagafffmaaGreatDoorZo29
import Derived.Test.YtfklheagafffmaaGreatDoorZo31
set_option linter.unusedVariables false
set_option linter.unusedSimpArgs false
namespace Go.Proofs.YtfklheagafffmaaGreatDoor
open Go.RowKit
theorem aloneN_any (e : GExp) (A : Option Addr) (n c : Nat) (w : World) (hn : e.kids.length = n) : Calls Tryz.prog 98 #[expV e A n c] w (fun r w' => r = .returned (.string (aloneE e)) ∧ Below w.heap.size w w') := by
  subst hn; exact alone_any e A c w
theorem putL_le (l : List GTold) : ∀ acc : List ByteArray, (putL acc l).length ≤ acc.length + l.length := by
  induction l with
  | nil => intro acc; exact Nat.le_refl _
  | cons t l ih =>
    intro acc
    show (putL (put1 acc t) l).length ≤ _
    have h := ih (put1 acc t)
    have h1 : (put1 acc t).length ≤ acc.length + 1 := by unfold put1; split <;> simp
    simp only [List.length_cons]
    omega
set_option maxRecDepth 100000 in
set_option maxHeartbeats 16000000 in
theorem setSets_any (d g : Nat) (S : List ByteArray) (M : Nat) (x : GLit) (a p q : Hd) (w : World) (hS : SetV w g S M) (hx : LitAt d w w.heap.size x a p q) (hsz : (insideL x).length ≤ 1500) :
    Calls Tryz.prog 72 #[.map (some g), .agg (litC x a p q).toArray] w (RetBool (setsB S x) w) := by
  have mixed : Tryz.prog.follows .mixedOrders = true := by kernel_rfl
  have hyu : undef = Value.tuple #[] := rfl
  have hrb : (w.alloc (.cells (litC x a p q).toArray 70)).heap[w.heap.size]? = some (.cells (litC x a p q).toArray 70 (0, 0)) := heapNew rfl
  have hbw : Below w.heap.size w (w.alloc (.cells (litC x a p q).toArray 70)) := belowA (Below.refl _ _) _
  obtain ⟨b0, b1, b2, b3, b4, b5, b6, b7, b8, b9, b10, b11, b12, b13, b14, b15, b16⟩ := facts17 hrb
  have HB := Lib.hid hbw
  have HR := Lib.hid hrb
  have HV := Lib.hid (hS.alloc (.cells (litC x a p q).toArray 70))
  have HX := Lib.hid (hx.keep hbw)
  clear hS hx hbw hrb
  by_cases h0 : x.k = 3
  rotate_left
  · have Hr : Hid (setsB S x = false) := by show _ = _; unfold setsB; simp [h0]
    clear hsz HX HV HR
    go_enter Tryz.func72, Tryz.ntmps72
    go_wp2_with fail
    go_ret
    exact ⟨by rw [Hr.out]; rfl, HB.out⟩
  by_cases h1 : x.op = 1
  rotate_left
  · have Hr : Hid (setsB S x = false) := by show _ = _; unfold setsB; simp [h1]
    clear hsz HX HV HR
    go_enter Tryz.func72, Tryz.ntmps72
    go_wp2_with fail
    go_ret
    exact ⟨by rw [Hr.out]; rfl, HB.out⟩
  have Hr : Hid (setsB S x = (sideB S x.l x.r || sideB S x.r x.l)) := by show _ = _; unfold setsB; simp [h0, h1]
  go_enter Tryz.func72, Tryz.ntmps72
  go_wp2_with fail
  generalize w.alloc (.cells (litC x a p q).toArray 70) = V at *
  have HZ : Hid (w.heap.size < V.heap.size) := (Array.getElem?_eq_some_iff.1 HR.out).1
  have HA1 := Lib.hid (fun W => aloneN_any x.l p.A p.n p.c W HX.out.lk.1)
  have HA2 := Lib.hid (fun W => aloneN_any x.r q.A q.n q.c W HX.out.rk.1)
  refine drawnS mixed _ (Below V.heap.size V) rfl (by kernel_rfl) rfl (Below.drew (Below.refl _ _)) ?_
  apply seqS_op
  · intro W hW
    go_wp2_with fail
    exact ⟨rfl, rfl, fun d hd => by cases hd; simp only [List.getElem?_toArray, List.getElem?_cons_succ, List.getElem?_cons_zero]; rfl, hW⟩
  simp only [Act.put, List.setIfInBounds_toArray, List.set_cons_succ, List.set_cons_zero]
  apply seqS_op
  · intro W hW
    obtain ⟨-, -, -, -, k4, k5, k6, k7, k8, k9, -⟩ := facts17 ((hW.block _ HZ.out).trans HR.out)
    go_wp2_with fail
    exact ⟨rfl, rfl, fun d hd => by cases hd; simp only [List.getElem?_toArray, List.getElem?_cons_succ, List.getElem?_cons_zero]; rfl, hW⟩
  simp only [Act.put, List.setIfInBounds_toArray, List.set_cons_succ, List.set_cons_zero]
  apply seqS_op
  · intro W hW
    go_wp2_with fail
    refine (HA1.out W).mono ?_
    rintro e w1 ⟨rfl, hb1⟩
    go_wp2_with fail
    exact ⟨rfl, rfl, fun d hd => by cases hd; simp only [List.getElem?_toArray, List.getElem?_cons_succ, List.getElem?_cons_zero]; rfl, hW.trans (hb1.mono hW.size)⟩
  simp only [Act.put, List.setIfInBounds_toArray, List.set_cons_succ, List.set_cons_zero]
  apply seqS_op
  · intro W hW
    go_wp2_with fail
    exact ⟨rfl, rfl, fun d hd => by cases hd; simp only [List.getElem?_toArray, List.getElem?_cons_succ, List.getElem?_cons_zero]; rfl, hW⟩
  simp only [Act.put, List.setIfInBounds_toArray, List.set_cons_succ, List.set_cons_zero]
  apply seqS_op
  · intro W hW
    obtain ⟨-, -, -, -, -, -, -, -, -, -, k10, k11, k12, k13, k14, k15, -⟩ := facts17 ((hW.block _ HZ.out).trans HR.out)
    go_wp2_with fail
    exact ⟨rfl, rfl, fun d hd => by cases hd; simp only [List.getElem?_toArray, List.getElem?_cons_succ, List.getElem?_cons_zero]; rfl, hW⟩
  simp only [Act.put, List.setIfInBounds_toArray, List.set_cons_succ, List.set_cons_zero]
  apply seqS_op
  · intro W hW
    go_wp2_with fail
    refine (HA2.out W).mono ?_
    rintro e w1 ⟨rfl, hb1⟩
    go_wp2_with fail
    exact ⟨rfl, rfl, fun d hd => by cases hd; simp only [List.getElem?_toArray, List.getElem?_cons_succ, List.getElem?_cons_zero]; rfl, hW.trans (hb1.mono hW.size)⟩
  simp only [Act.put, List.setIfInBounds_toArray, List.set_cons_succ, List.set_cons_zero]
  apply seqS_op
  · intro W hW
    go_wp2_with fail
    exact ⟨rfl, rfl, fun d hd => by cases hd; simp only [List.getElem?_toArray, List.getElem?_cons_succ, List.getElem?_cons_zero]; rfl, hW⟩
  simp only [Act.put, List.setIfInBounds_toArray, List.set_cons_succ, List.set_cons_zero]
  apply seqS_op
  · intro W hW
    go_wp2_with fail
    exact ⟨rfl, rfl, fun d hd => by cases hd; simp only [List.getElem?_toArray, List.getElem?_cons_succ, List.getElem?_cons_zero]; rfl, hW⟩
  simp only [Act.put, List.setIfInBounds_toArray, List.set_cons_succ, List.set_cons_zero]
  apply seqS_end
  intro W1 hW1
  have HVW : Hid (∀ W, Below W1.heap.size W1 W → SetV W g S M) := fun W hW => (HV.out.below hW1).below hW
  have HRW : Hid (∀ W, Below W1.heap.size W1 W → W.heap[w.heap.size]? = some (.cells (litC x a p q).toArray 70 (0, 0))) := fun W hW => (hW.block _ (by have := hW1.size; have := HZ.out; omega)).trans ((hW1.block _ HZ.out).trans HR.out)
  have hq1 : Below W1.heap.size W1 W1 := Below.refl _ _
  have HBW : Hid (Below w.heap.size w W1) := HB.out.trans (hW1.mono HB.out.size)
  have HXW : Hid (∀ W, Below W1.heap.size W1 W → LitAt d W W.heap.size x a p q) := fun W hW => (HX.out.keep hW1).keep hW
  have Hs1 : Hid (sideB S x.l x.r = (!(aloneE x.l).toList.isEmpty && (!hasB S (aloneE x.l) && allB S (varsE x.r)))) := rfl
  have Hs2 : Hid (sideB S x.r x.l = (!(aloneE x.r).toList.isEmpty && (!hasB S (aloneE x.r) && allB S (varsE x.l)))) := rfl
  have Hf : Hid (setsB S x = (!(aloneE x.l).toList.isEmpty && (!hasB S (aloneE x.l) && allB S (varsE x.r)) || !(aloneE x.r).toList.isEmpty && (!hasB S (aloneE x.r) && allB S (varsE x.l)))) := by
    show _ = _
    rw [Hr.out, Hs1.out, Hs2.out]
  clear HA1 HA2 hW1 HV HX HR HB hyu Hr Hs1 Hs2
  generalize aloneE x.l = sl at *
  generalize aloneE x.r = sr at *
  obtain ⟨rb, Hrb⟩ : ∃ rb, Hid ((!sl.toList.isEmpty && (!hasB S sl && allB S (varsE x.r)) || !sr.toList.isEmpty && (!hasB S sr && allB S (varsE x.l))) = rb) := ⟨_, rfl⟩
  have hsl : (leavesE x.l).length ≤ 1500 := by unfold insideL at hsz; simp only [List.length_append] at hsz; omega
  have hsr : (leavesE x.r).length ≤ 1500 := by unfold insideL at hsz; simp only [List.length_append] at hsz; omega
  have HOfL := Lib.hid (fun (W : World) (hW : Below W1.heap.size W1 W) => termOf_any d x.l p.A p.n p.c W (HXW.out W hW).lk (HXW.out W hW).lx (HXW.out W hW).lv hsl)
  have HOfR := Lib.hid (fun (W : World) (hW : Below W1.heap.size W1 W) => termOf_any d x.r q.A q.n q.c W (HXW.out W hW).rk (HXW.out W hW).rx (HXW.out W hW).rv hsr)
  have HLenL : Hid ((varsE x.l).length ≤ 1000000) := by have := putL_le (leavesE x.l) []; show (putL [] _).length ≤ _; simp at this; omega
  have HLenR : Hid ((varsE x.r).length ≤ 1000000) := by have := putL_le (leavesE x.r) []; show (putL [] _).length ≤ _; simp at this; omega
  have HSzL : Hid (∀ s ∈ varsE x.l, s.size ≤ reachN) := fun s hs => by
    obtain ⟨t, ht, rfl, -⟩ := varsE_has.1 hs
    exact (leaves_ok d x.l p.A p.n p.c W1 _ (HXW.out W1 hq1).lk (HXW.out W1 hq1).lx (HXW.out W1 hq1).lv t ht).1
  have HSzR : Hid (∀ s ∈ varsE x.r, s.size ≤ reachN) := fun s hs => by
    obtain ⟨t, ht, rfl, -⟩ := varsE_has.1 hs
    exact (leaves_ok d x.r q.A q.n q.c W1 _ (HXW.out W1 hq1).rk (HXW.out W1 hq1).rx (HXW.out W1 hq1).rv t ht).1
  clear hsl hsr hsz
  cases e1 : sl.toList.isEmpty with
  | true =>
    cases e2 : sr.toList.isEmpty with
    | true =>
      obtain rfl : rb = false := by rw [← Hrb.out]; simp [e1, e2]
      go_wp2_with fail
      first
        | (go_ret; exact ⟨by (rw [Hf.out, Hrb.out]) <;> rfl, HBW.out.trans (hq1.mono HBW.out.size)⟩)
        | exact ⟨by (rw [Hf.out, Hrb.out]) <;> rfl, HBW.out.trans (hq1.mono HBW.out.size)⟩
    | false =>
    cases h2 : hasB S sr with
    | true =>
      obtain rfl : rb = false := by rw [← Hrb.out]; simp [e1, e2, h2]
      obtain ⟨c2, u2, l2, m2, z2⟩ := (HVW.out W1 hq1).look under_set under_key (zero_cnt _) sr
      have y2 : (c2 == 0) = false := by simp; intro h; exact (z2.1 h) (hasB_iff.1 h2)
      clear l2 m2 z2
      go_wp2_with fail
      first
        | (go_ret; exact ⟨by (rw [Hf.out, Hrb.out]) <;> rfl, HBW.out.trans (hq1.mono HBW.out.size)⟩)
        | exact ⟨by (rw [Hf.out, Hrb.out]) <;> rfl, HBW.out.trans (hq1.mono HBW.out.size)⟩
    | false =>
    cases a2 : allB S (varsE x.l) with
    | false =>
      obtain rfl : rb = false := by rw [← Hrb.out]; simp [e1, e2, h2, a2]
      obtain ⟨c2, u2, l2, m2, z2⟩ := (HVW.out W1 hq1).look under_set under_key (zero_cnt _) sr
      obtain rfl : c2 = 0 := z2.2 (fun h => Bool.false_ne_true (h2.symm.trans (hasB_iff.2 h)))
      clear l2 m2 z2
      obtain ⟨-, -, -, -, kb4, kb5, kb6, kb7, kb8, kb9, -⟩ := facts17 (HRW.out W1 hq1)
      go_wp2_with fail
      refine (HOfL.out W1 hq1).mono ?_
      rintro e X2 ⟨A2, d2, rfl, ho2, hb2⟩
      have hx2 : Below W1.heap.size W1 X2 := hq1.trans (hb2.mono hq1.size)
      have HC2 := Lib.hid (setAll_any g A2 _ d2 _ S M X2 (HVW.out X2 hx2) (TextsPost.is ho2 HLenL.out HSzL.out))
      rw [a2] at HC2
      clear ho2 hb2
      go_wp2_with fail
      refine HC2.out.mono ?_
      rintro e Z2 ⟨rfl, hc2⟩
      have hz2 : Below W1.heap.size W1 Z2 := hx2.trans (hc2.mono hx2.size)
      clear hc2
      go_wp2_with fail
      first
        | (go_ret; exact ⟨by (rw [Hf.out, Hrb.out]) <;> rfl, HBW.out.trans (hz2.mono HBW.out.size)⟩)
        | exact ⟨by (rw [Hf.out, Hrb.out]) <;> rfl, HBW.out.trans (hz2.mono HBW.out.size)⟩
    | true =>
      obtain rfl : rb = true := by rw [← Hrb.out]; simp [e1, e2, h2, a2]
      obtain ⟨c2, u2, l2, m2, z2⟩ := (HVW.out W1 hq1).look under_set under_key (zero_cnt _) sr
      obtain rfl : c2 = 0 := z2.2 (fun h => Bool.false_ne_true (h2.symm.trans (hasB_iff.2 h)))
      clear l2 m2 z2
      obtain ⟨-, -, -, -, kb4, kb5, kb6, kb7, kb8, kb9, -⟩ := facts17 (HRW.out W1 hq1)
      go_wp2_with fail
      refine (HOfL.out W1 hq1).mono ?_
      rintro e X2 ⟨A2, d2, rfl, ho2, hb2⟩
      have hx2 : Below W1.heap.size W1 X2 := hq1.trans (hb2.mono hq1.size)
      have HC2 := Lib.hid (setAll_any g A2 _ d2 _ S M X2 (HVW.out X2 hx2) (TextsPost.is ho2 HLenL.out HSzL.out))
      rw [a2] at HC2
      clear ho2 hb2
      go_wp2_with fail
      refine HC2.out.mono ?_
      rintro e Z2 ⟨rfl, hc2⟩
      have hz2 : Below W1.heap.size W1 Z2 := hx2.trans (hc2.mono hx2.size)
      clear hc2
      go_wp2_with fail
      first
        | (go_ret; exact ⟨by (rw [Hf.out, Hrb.out]) <;> rfl, HBW.out.trans (hz2.mono HBW.out.size)⟩)
        | exact ⟨by (rw [Hf.out, Hrb.out]) <;> rfl, HBW.out.trans (hz2.mono HBW.out.size)⟩
  | false =>
  cases h1 : hasB S sl with
  | true =>
    cases e2 : sr.toList.isEmpty with
    | true =>
      obtain rfl : rb = false := by rw [← Hrb.out]; simp [e1, h1, e2]
      obtain ⟨c1, u1, l1, m1, z1⟩ := (HVW.out W1 hq1).look under_set under_key (zero_cnt _) sl
      have y1 : (c1 == 0) = false := by simp; intro h; exact (z1.1 h) (hasB_iff.1 h1)
      clear l1 m1 z1
      go_wp2_with fail
      first
        | (go_ret; exact ⟨by (rw [Hf.out, Hrb.out]) <;> rfl, HBW.out.trans (hq1.mono HBW.out.size)⟩)
        | exact ⟨by (rw [Hf.out, Hrb.out]) <;> rfl, HBW.out.trans (hq1.mono HBW.out.size)⟩
    | false =>
    cases h2 : hasB S sr with
    | true =>
      obtain rfl : rb = false := by rw [← Hrb.out]; simp [e1, h1, e2, h2]
      obtain ⟨c1, u1, l1, m1, z1⟩ := (HVW.out W1 hq1).look under_set under_key (zero_cnt _) sl
      have y1 : (c1 == 0) = false := by simp; intro h; exact (z1.1 h) (hasB_iff.1 h1)
      clear l1 m1 z1
      obtain ⟨c2, u2, l2, m2, z2⟩ := (HVW.out W1 hq1).look under_set under_key (zero_cnt _) sr
      have y2 : (c2 == 0) = false := by simp; intro h; exact (z2.1 h) (hasB_iff.1 h2)
      clear l2 m2 z2
      go_wp2_with fail
      first
        | (go_ret; exact ⟨by (rw [Hf.out, Hrb.out]) <;> rfl, HBW.out.trans (hq1.mono HBW.out.size)⟩)
        | exact ⟨by (rw [Hf.out, Hrb.out]) <;> rfl, HBW.out.trans (hq1.mono HBW.out.size)⟩
    | false =>
    cases a2 : allB S (varsE x.l) with
    | false =>
      obtain rfl : rb = false := by rw [← Hrb.out]; simp [e1, h1, e2, h2, a2]
      obtain ⟨c1, u1, l1, m1, z1⟩ := (HVW.out W1 hq1).look under_set under_key (zero_cnt _) sl
      have y1 : (c1 == 0) = false := by simp; intro h; exact (z1.1 h) (hasB_iff.1 h1)
      clear l1 m1 z1
      obtain ⟨c2, u2, l2, m2, z2⟩ := (HVW.out W1 hq1).look under_set under_key (zero_cnt _) sr
      obtain rfl : c2 = 0 := z2.2 (fun h => Bool.false_ne_true (h2.symm.trans (hasB_iff.2 h)))
      clear l2 m2 z2
      obtain ⟨-, -, -, -, kb4, kb5, kb6, kb7, kb8, kb9, -⟩ := facts17 (HRW.out W1 hq1)
      go_wp2_with fail
      refine (HOfL.out W1 hq1).mono ?_
      rintro e X2 ⟨A2, d2, rfl, ho2, hb2⟩
      have hx2 : Below W1.heap.size W1 X2 := hq1.trans (hb2.mono hq1.size)
      have HC2 := Lib.hid (setAll_any g A2 _ d2 _ S M X2 (HVW.out X2 hx2) (TextsPost.is ho2 HLenL.out HSzL.out))
      rw [a2] at HC2
      clear ho2 hb2
      go_wp2_with fail
      refine HC2.out.mono ?_
      rintro e Z2 ⟨rfl, hc2⟩
      have hz2 : Below W1.heap.size W1 Z2 := hx2.trans (hc2.mono hx2.size)
      clear hc2
      go_wp2_with fail
      first
        | (go_ret; exact ⟨by (rw [Hf.out, Hrb.out]) <;> rfl, HBW.out.trans (hz2.mono HBW.out.size)⟩)
        | exact ⟨by (rw [Hf.out, Hrb.out]) <;> rfl, HBW.out.trans (hz2.mono HBW.out.size)⟩
    | true =>
      obtain rfl : rb = true := by rw [← Hrb.out]; simp [e1, h1, e2, h2, a2]
      obtain ⟨c1, u1, l1, m1, z1⟩ := (HVW.out W1 hq1).look under_set under_key (zero_cnt _) sl
      have y1 : (c1 == 0) = false := by simp; intro h; exact (z1.1 h) (hasB_iff.1 h1)
      clear l1 m1 z1
      obtain ⟨c2, u2, l2, m2, z2⟩ := (HVW.out W1 hq1).look under_set under_key (zero_cnt _) sr
      obtain rfl : c2 = 0 := z2.2 (fun h => Bool.false_ne_true (h2.symm.trans (hasB_iff.2 h)))
      clear l2 m2 z2
      obtain ⟨-, -, -, -, kb4, kb5, kb6, kb7, kb8, kb9, -⟩ := facts17 (HRW.out W1 hq1)
      go_wp2_with fail
      refine (HOfL.out W1 hq1).mono ?_
      rintro e X2 ⟨A2, d2, rfl, ho2, hb2⟩
      have hx2 : Below W1.heap.size W1 X2 := hq1.trans (hb2.mono hq1.size)
      have HC2 := Lib.hid (setAll_any g A2 _ d2 _ S M X2 (HVW.out X2 hx2) (TextsPost.is ho2 HLenL.out HSzL.out))
      rw [a2] at HC2
      clear ho2 hb2
      go_wp2_with fail
      refine HC2.out.mono ?_
      rintro e Z2 ⟨rfl, hc2⟩
      have hz2 : Below W1.heap.size W1 Z2 := hx2.trans (hc2.mono hx2.size)
      clear hc2
      go_wp2_with fail
      first
        | (go_ret; exact ⟨by (rw [Hf.out, Hrb.out]) <;> rfl, HBW.out.trans (hz2.mono HBW.out.size)⟩)
        | exact ⟨by (rw [Hf.out, Hrb.out]) <;> rfl, HBW.out.trans (hz2.mono HBW.out.size)⟩
  | false =>
  cases a1 : allB S (varsE x.r) with
  | true =>
    obtain rfl : rb = true := by rw [← Hrb.out]; simp [e1, h1, a1]
    obtain ⟨c1, u1, l1, m1, z1⟩ := (HVW.out W1 hq1).look under_set under_key (zero_cnt _) sl
    obtain rfl : c1 = 0 := z1.2 (fun h => Bool.false_ne_true (h1.symm.trans (hasB_iff.2 h)))
    clear l1 m1 z1
    obtain ⟨-, -, -, -, -, -, -, -, -, -, ka10, ka11, ka12, ka13, ka14, ka15, -⟩ := facts17 (HRW.out W1 hq1)
    go_wp2_with fail
    refine (HOfR.out W1 hq1).mono ?_
    rintro e X1 ⟨A1, d1, rfl, ho1, hb1⟩
    have hx1 : Below W1.heap.size W1 X1 := hq1.trans (hb1.mono hq1.size)
    have HC1 := Lib.hid (setAll_any g A1 _ d1 _ S M X1 (HVW.out X1 hx1) (TextsPost.is ho1 HLenR.out HSzR.out))
    rw [a1] at HC1
    clear ho1 hb1
    go_wp2_with fail
    refine HC1.out.mono ?_
    rintro e Z1 ⟨rfl, hc1⟩
    have hz1 : Below W1.heap.size W1 Z1 := hx1.trans (hc1.mono hx1.size)
    clear hc1
    go_wp2_with fail
    first
      | (go_ret; exact ⟨by (rw [Hf.out, Hrb.out]) <;> rfl, HBW.out.trans (hz1.mono HBW.out.size)⟩)
      | exact ⟨by (rw [Hf.out, Hrb.out]) <;> rfl, HBW.out.trans (hz1.mono HBW.out.size)⟩
  | false =>
    cases e2 : sr.toList.isEmpty with
    | true =>
      obtain rfl : rb = false := by rw [← Hrb.out]; simp [e1, h1, a1, e2]
      obtain ⟨c1, u1, l1, m1, z1⟩ := (HVW.out W1 hq1).look under_set under_key (zero_cnt _) sl
      obtain rfl : c1 = 0 := z1.2 (fun h => Bool.false_ne_true (h1.symm.trans (hasB_iff.2 h)))
      clear l1 m1 z1
      obtain ⟨-, -, -, -, -, -, -, -, -, -, ka10, ka11, ka12, ka13, ka14, ka15, -⟩ := facts17 (HRW.out W1 hq1)
      go_wp2_with fail
      refine (HOfR.out W1 hq1).mono ?_
      rintro e X1 ⟨A1, d1, rfl, ho1, hb1⟩
      have hx1 : Below W1.heap.size W1 X1 := hq1.trans (hb1.mono hq1.size)
      have HC1 := Lib.hid (setAll_any g A1 _ d1 _ S M X1 (HVW.out X1 hx1) (TextsPost.is ho1 HLenR.out HSzR.out))
      rw [a1] at HC1
      clear ho1 hb1
      go_wp2_with fail
      refine HC1.out.mono ?_
      rintro e Z1 ⟨rfl, hc1⟩
      have hz1 : Below W1.heap.size W1 Z1 := hx1.trans (hc1.mono hx1.size)
      clear hc1
      go_wp2_with fail
      first
        | (go_ret; exact ⟨by (rw [Hf.out, Hrb.out]) <;> rfl, HBW.out.trans (hz1.mono HBW.out.size)⟩)
        | exact ⟨by (rw [Hf.out, Hrb.out]) <;> rfl, HBW.out.trans (hz1.mono HBW.out.size)⟩
    | false =>
    cases h2 : hasB S sr with
    | true =>
      obtain rfl : rb = false := by rw [← Hrb.out]; simp [e1, h1, a1, e2, h2]
      obtain ⟨c1, u1, l1, m1, z1⟩ := (HVW.out W1 hq1).look under_set under_key (zero_cnt _) sl
      obtain rfl : c1 = 0 := z1.2 (fun h => Bool.false_ne_true (h1.symm.trans (hasB_iff.2 h)))
      clear l1 m1 z1
      obtain ⟨-, -, -, -, -, -, -, -, -, -, ka10, ka11, ka12, ka13, ka14, ka15, -⟩ := facts17 (HRW.out W1 hq1)
      go_wp2_with fail
      refine (HOfR.out W1 hq1).mono ?_
      rintro e X1 ⟨A1, d1, rfl, ho1, hb1⟩
      have hx1 : Below W1.heap.size W1 X1 := hq1.trans (hb1.mono hq1.size)
      have HC1 := Lib.hid (setAll_any g A1 _ d1 _ S M X1 (HVW.out X1 hx1) (TextsPost.is ho1 HLenR.out HSzR.out))
      rw [a1] at HC1
      clear ho1 hb1
      go_wp2_with fail
      refine HC1.out.mono ?_
      rintro e Z1 ⟨rfl, hc1⟩
      have hz1 : Below W1.heap.size W1 Z1 := hx1.trans (hc1.mono hx1.size)
      clear hc1
      obtain ⟨c2, u2, l2, m2, z2⟩ := (HVW.out Z1 hz1).look under_set under_key (zero_cnt _) sr
      have y2 : (c2 == 0) = false := by simp; intro h; exact (z2.1 h) (hasB_iff.1 h2)
      clear l2 m2 z2
      go_wp2_with fail
      first
        | (go_ret; exact ⟨by (rw [Hf.out, Hrb.out]) <;> rfl, HBW.out.trans (hz1.mono HBW.out.size)⟩)
        | exact ⟨by (rw [Hf.out, Hrb.out]) <;> rfl, HBW.out.trans (hz1.mono HBW.out.size)⟩
    | false =>
    cases a2 : allB S (varsE x.l) with
    | false =>
      obtain rfl : rb = false := by rw [← Hrb.out]; simp [e1, h1, a1, e2, h2, a2]
      obtain ⟨c1, u1, l1, m1, z1⟩ := (HVW.out W1 hq1).look under_set under_key (zero_cnt _) sl
      obtain rfl : c1 = 0 := z1.2 (fun h => Bool.false_ne_true (h1.symm.trans (hasB_iff.2 h)))
      clear l1 m1 z1
      obtain ⟨-, -, -, -, -, -, -, -, -, -, ka10, ka11, ka12, ka13, ka14, ka15, -⟩ := facts17 (HRW.out W1 hq1)
      go_wp2_with fail
      refine (HOfR.out W1 hq1).mono ?_
      rintro e X1 ⟨A1, d1, rfl, ho1, hb1⟩
      have hx1 : Below W1.heap.size W1 X1 := hq1.trans (hb1.mono hq1.size)
      have HC1 := Lib.hid (setAll_any g A1 _ d1 _ S M X1 (HVW.out X1 hx1) (TextsPost.is ho1 HLenR.out HSzR.out))
      rw [a1] at HC1
      clear ho1 hb1
      go_wp2_with fail
      refine HC1.out.mono ?_
      rintro e Z1 ⟨rfl, hc1⟩
      have hz1 : Below W1.heap.size W1 Z1 := hx1.trans (hc1.mono hx1.size)
      clear hc1
      obtain ⟨c2, u2, l2, m2, z2⟩ := (HVW.out Z1 hz1).look under_set under_key (zero_cnt _) sr
      obtain rfl : c2 = 0 := z2.2 (fun h => Bool.false_ne_true (h2.symm.trans (hasB_iff.2 h)))
      clear l2 m2 z2
      obtain ⟨-, -, -, -, kb4, kb5, kb6, kb7, kb8, kb9, -⟩ := facts17 (HRW.out Z1 hz1)
      go_wp2_with fail
      refine (HOfL.out Z1 hz1).mono ?_
      rintro e X2 ⟨A2, d2, rfl, ho2, hb2⟩
      have hx2 : Below W1.heap.size W1 X2 := hz1.trans (hb2.mono hz1.size)
      have HC2 := Lib.hid (setAll_any g A2 _ d2 _ S M X2 (HVW.out X2 hx2) (TextsPost.is ho2 HLenL.out HSzL.out))
      rw [a2] at HC2
      clear ho2 hb2
      go_wp2_with fail
      refine HC2.out.mono ?_
      rintro e Z2 ⟨rfl, hc2⟩
      have hz2 : Below W1.heap.size W1 Z2 := hx2.trans (hc2.mono hx2.size)
      clear hc2
      go_wp2_with fail
      first
        | (go_ret; exact ⟨by (rw [Hf.out, Hrb.out]) <;> rfl, HBW.out.trans (hz2.mono HBW.out.size)⟩)
        | exact ⟨by (rw [Hf.out, Hrb.out]) <;> rfl, HBW.out.trans (hz2.mono HBW.out.size)⟩
    | true =>
      obtain rfl : rb = true := by rw [← Hrb.out]; simp [e1, h1, a1, e2, h2, a2]
      obtain ⟨c1, u1, l1, m1, z1⟩ := (HVW.out W1 hq1).look under_set under_key (zero_cnt _) sl
      obtain rfl : c1 = 0 := z1.2 (fun h => Bool.false_ne_true (h1.symm.trans (hasB_iff.2 h)))
      clear l1 m1 z1
      obtain ⟨-, -, -, -, -, -, -, -, -, -, ka10, ka11, ka12, ka13, ka14, ka15, -⟩ := facts17 (HRW.out W1 hq1)
      go_wp2_with fail
      refine (HOfR.out W1 hq1).mono ?_
      rintro e X1 ⟨A1, d1, rfl, ho1, hb1⟩
      have hx1 : Below W1.heap.size W1 X1 := hq1.trans (hb1.mono hq1.size)
      have HC1 := Lib.hid (setAll_any g A1 _ d1 _ S M X1 (HVW.out X1 hx1) (TextsPost.is ho1 HLenR.out HSzR.out))
      rw [a1] at HC1
      clear ho1 hb1
      go_wp2_with fail
      refine HC1.out.mono ?_
      rintro e Z1 ⟨rfl, hc1⟩
      have hz1 : Below W1.heap.size W1 Z1 := hx1.trans (hc1.mono hx1.size)
      clear hc1
      obtain ⟨c2, u2, l2, m2, z2⟩ := (HVW.out Z1 hz1).look under_set under_key (zero_cnt _) sr
      obtain rfl : c2 = 0 := z2.2 (fun h => Bool.false_ne_true (h2.symm.trans (hasB_iff.2 h)))
      clear l2 m2 z2
      obtain ⟨-, -, -, -, kb4, kb5, kb6, kb7, kb8, kb9, -⟩ := facts17 (HRW.out Z1 hz1)
      go_wp2_with fail
      refine (HOfL.out Z1 hz1).mono ?_
      rintro e X2 ⟨A2, d2, rfl, ho2, hb2⟩
      have hx2 : Below W1.heap.size W1 X2 := hz1.trans (hb2.mono hz1.size)
      have HC2 := Lib.hid (setAll_any g A2 _ d2 _ S M X2 (HVW.out X2 hx2) (TextsPost.is ho2 HLenL.out HSzL.out))
      rw [a2] at HC2
      clear ho2 hb2
      go_wp2_with fail
      refine HC2.out.mono ?_
      rintro e Z2 ⟨rfl, hc2⟩
      have hz2 : Below W1.heap.size W1 Z2 := hx2.trans (hc2.mono hx2.size)
      clear hc2
      go_wp2_with fail
      first
        | (go_ret; exact ⟨by (rw [Hf.out, Hrb.out]) <;> rfl, HBW.out.trans (hz2.mono HBW.out.size)⟩)
        | exact ⟨by (rw [Hf.out, Hrb.out]) <;> rfl, HBW.out.trans (hz2.mono HBW.out.size)⟩
end Go.Proofs.YtfklheagafffmaaGreatDoor

namespace Go.Proofs.YtfklheagafffmaaGreatDoor
open Go.RowKit
theorem varsL_le (x : GLit) : (varsL x).length ≤ (insideL x).length := by
  have := putL_le (insideL x) []
  show (putL [] _).length ≤ _
  simpa using this
set_option maxRecDepth 100000 in
set_option maxHeartbeats 8000000 in
theorem setEarly_any (d g : Nat) (S : List ByteArray) (M : Nat) (x : GLit) (a p q : Hd) (w : World) (hS : SetV w g S M) (hx : LitAt d w w.heap.size x a p q) (hsz : (insideL x).length ≤ 1500) :
    Calls Tryz.prog 60 #[.map (some g), .agg (litC x a p q).toArray] w (RetBool (earlyB S x) w) := by
  obtain ⟨V, hV⟩ : ∃ V, V = w.alloc (.cells (litC x a p q).toArray 70) := ⟨_, rfl⟩
  have hrb : V.heap[w.heap.size]? = some (.cells (litC x a p q).toArray 70 (0, 0)) := hV ▸ heapNew rfl
  have hbw : Below w.heap.size w V := hV ▸ belowA (Below.refl _ _) _
  have HBW := Lib.hid hbw
  have HR := Lib.hid hrb
  have HV : Hid (SetV V g S M) := hV ▸ hS.alloc (.cells (litC x a p q).toArray 70)
  have HX := Lib.hid (hx.keep hbw)
  have HVe := Lib.hid hV.symm
  clear hS hx hbw hrb hV
  have HZ : Hid (w.heap.size < V.heap.size) := (Array.getElem?_eq_some_iff.1 HR.out).1
  have HSets := Lib.hid (fun (W : World) (hW : Below V.heap.size V W) => setSets_any d g S M x a p q W (HV.out.below hW) (HX.out.keep hW) hsz)
  have HIn := Lib.hid (inT_any d x a p q V HX.out hsz)
  have HSz : Hid (∀ s ∈ varsL x, s.size ≤ reachN) := fun s hs => by
    obtain ⟨t, ht, rfl, -⟩ := varsL_has.1 hs
    exact (inside_ok HX.out t ht).1
  have HLen : Hid ((varsL x).length ≤ 1000000) := by have := varsL_le x; show _ ≤ _; omega
  have HAll := Lib.hid (fun (W : World) (hW : Below V.heap.size V W) (A : Option Addr) (n c : Nat) (h : SliceIs Enc.str W W.heap.size A n c (varsL x)) => setAll_any g A n c (varsL x) S M W (HV.out.below hW) h)
  have HCells : Hid (∀ W, Below V.heap.size V W → W.heap[w.heap.size]? = some (.cells (litC x a p q).toArray 70 (0, 0))) := fun W hW => (hW.block _ HZ.out).trans HR.out
  have hq0 : Below V.heap.size V V := Below.refl _ _
  have HVx : Hid (varsL x = putL [] (insideL x)) := rfl
  clear hsz HV HX HR
  have b0 := (facts17 (HCells.out V hq0)).1
  have k70 : (Tryz.prog.info? 70).map (·.size) = some (litC x a p q).length := by show _ = some 17; kernel_rfl
  have K70 := Lib.hid k70
  clear k70
  have HLd := Lib.hid (fun (W : World) (hW : Below V.heap.size V W) => row_cells (HCells.out W hW))
  by_cases h0 : x.k = 1
  · have Hf : Hid (earlyB S x = setsB S x) := by show _ = _; unfold earlyB posB; simp [h0]
    have HS0 := Lib.hid (HSets.out _ hq0)
    have e0 : (x.k != 1) = false := by simp [h0]
    clear h0
    go_enter Tryz.func60, Tryz.ntmps60
    go_wp2_with (first | rw [HVe.out] | rw [e0] | (refine wpList_load_at w.heap.size 0 (litC x a p q) _ (HLd.out _ hq0) Tryz.underlying70 rfl K70.out rfl rfl ?_))
    refine HS0.out.mono ?_
    rintro e w1 ⟨rfl, hb1⟩
    have HE : Hid (Below w.heap.size w w1) := HBW.out.trans (hb1.mono HBW.out.size)
    clear hb1
    go_wp2_with fail
    go_ret
    exact ⟨by (rw [Hf.out]) <;> rfl, HE.out⟩
  · have HI0 := HIn
    cases ha : allB S (varsL x) with
    | true =>
      have Hf : Hid (earlyB S x = true) := by show _ = _; unfold earlyB posB; simp [h0, ha]
      have e0 : (x.k != 1) = true := by simp [h0]
      have Hab := Lib.hid ha
      clear ha h0
      go_enter Tryz.func60, Tryz.ntmps60
      go_wp2_with (first | rw [HVe.out] | rw [e0] | (refine wpList_load_at w.heap.size 0 (litC x a p q) _ (HLd.out _ hq0) Tryz.underlying70 rfl K70.out rfl rfl ?_))
      refine HI0.out.mono ?_
      rintro e w1 ⟨A1, c1, rfl, ho1, hb1⟩
      have HA := Lib.hid (HAll.out w1 hb1 A1 _ c1 (TextsPost.is ho1 HLen.out HSz.out))
      rw [Hab.out] at HA
      have HQ1 := Lib.hid hb1
      clear ho1 hb1
      go_wp2_with fail
      refine HA.out.mono ?_
      rintro e w2 ⟨rfl, hb2⟩
      have HE : Hid (Below w.heap.size w w2) := HBW.out.trans ((HQ1.out.trans (hb2.mono HQ1.out.size)).mono HBW.out.size)
      clear hb2
      go_wp2_with fail
      go_ret
      exact ⟨by (rw [Hf.out]) <;> rfl, HE.out⟩
    | false =>
      have Hf : Hid (earlyB S x = setsB S x) := by show _ = _; unfold earlyB posB; simp [h0, ha]
      have e0 : (x.k != 1) = true := by simp [h0]
      have Hab := Lib.hid ha
      clear ha h0
      go_enter Tryz.func60, Tryz.ntmps60
      go_wp2_with (first | rw [HVe.out] | rw [e0] | (refine wpList_load_at w.heap.size 0 (litC x a p q) _ (HLd.out _ hq0) Tryz.underlying70 rfl K70.out rfl rfl ?_))
      refine HI0.out.mono ?_
      rintro e w1 ⟨A1, c1, rfl, ho1, hb1⟩
      have HA := Lib.hid (HAll.out w1 hb1 A1 _ c1 (TextsPost.is ho1 HLen.out HSz.out))
      rw [Hab.out] at HA
      have HQ1 := Lib.hid hb1
      clear ho1 hb1
      go_wp2_with fail
      refine HA.out.mono ?_
      rintro e w2 ⟨rfl, hb2⟩
      have hq2 : Below V.heap.size V w2 := HQ1.out.trans (hb2.mono HQ1.out.size)
      have HS2 := Lib.hid (HSets.out w2 hq2)
      have HQ2 := Lib.hid hq2
      clear hb2 hq2
      go_wp2_with (refine wpList_load_at w.heap.size 0 (litC x a p q) _ (HLd.out _ HQ2.out) Tryz.underlying70 rfl K70.out rfl rfl ?_)
      refine HS2.out.mono ?_
      rintro e w3 ⟨rfl, hb3⟩
      have HE : Hid (Below w.heap.size w w3) := HBW.out.trans ((HQ2.out.trans (hb3.mono HQ2.out.size)).mono HBW.out.size)
      clear hb3
      go_wp2_with fail
      go_ret
      exact ⟨by (rw [Hf.out]) <;> rfl, HE.out⟩
end Go.Proofs.YtfklheagafffmaaGreatDoor
