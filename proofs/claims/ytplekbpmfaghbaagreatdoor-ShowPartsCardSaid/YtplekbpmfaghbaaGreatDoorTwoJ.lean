/- Two new boxes, filled one behind the other, in a drawn region: the joint word of XDrawnJ. Nothing of any program. -/
import Derived.Test.YtplekbpmfaghbaaGreatDoorDrawnJ
namespace Go.Proofs.YtplekbpmfaghbaaGreatDoor
open Go.RowKit

theorem below_set {B g : Nat} {w0 w : World} (hb : Below B w0 w) (hg : B ≤ g) (cs : Array Value) : Below B w0 (w.setRow g cs) :=
  ⟨hb.os, hb.tape, hb.output, by rw [setRow_size]; exact hb.size, fun k hk => (setRow_ne (by omega)).trans (hb.block k hk)⟩
theorem below_al {B : Nat} {w0 w : World} (hb : Below B w0 w) (hB : B ≤ w.heap.size) (o : Obj) : Below B w0 (w.alloc o) :=
  hb.trans ((belowA (Below.refl _ w) o).mono hB)
theorem range_on {w w' : World} {b o : Nat} {cs : List Value} (h : w.rangeAt b o cs) (hb : Below w.heap.size w w') : w'.rangeAt b o cs := fun j v hj => below_cell hb (h j v hj)
/-- two boxes, i and j, filled one behind the other -/
def twoJ (B T i0 i1 i2 d0 d1 : Nat) (c1 zs : Array Value) (l : Nat → Bool) (t : Array Value) (W : World) : Prop :=
  ∃ g h : Nat, (l i0 = true → t[d0]? = some (.pointer (some ⟨g, 0, none⟩)) ∧ B ≤ g ∧ g < W.heap.size ∧ ∃ cs : Array Value, cs.size = zs.size ∧ W.heap[g]? = some (.cells cs T (0, 0)) ∧ (l i2 = true → cs = c1) ∧ (l i2 = false → cs = zs)) ∧
    (l i1 = true → t[d1]? = some (.pointer (some ⟨h, 0, none⟩)) ∧ B ≤ h ∧ h < W.heap.size ∧ W.heap[h]? = some (.cells zs T (0, 0))) ∧
    (l i0 = true → l i1 = true → g ≠ h) ∧ (l i2 = true → l i0 = true)
theorem twoJ_val {B T i0 i1 i2 d0 d1 : Nat} {c1 zs : Array Value} {l l' : Nat → Bool} {a : Act} {W : World} {o : Option Tmp} {v : Value} {i : Nat} (h : twoJ B T i0 i1 i2 d0 d1 c1 zs l a.tmps W)
    (n0 : i ≠ i0) (n1 : i ≠ i1) (n2 : i ≠ i2) (m0 : o ≠ some d0) (m1 : o ≠ some d1) (_ : l' i = true) (hl : ∀ j, j ≠ i → l' j = l j) : twoJ B T i0 i1 i2 d0 d1 c1 zs l' (a.put o v).tmps W := by
  obtain ⟨g, k, h1, h2, h3, h4⟩ := h
  have hp : ∀ d : Nat, o ≠ some d → (a.put o v).tmps[d]? = a.tmps[d]? := fun d hd => by
    cases o with
    | none => rfl
    | some q => simp only [Act.put]; exact Array.getElem?_setIfInBounds_ne (by intro e; exact hd (by rw [e]))
  refine ⟨g, k, ?_, ?_, ?_, ?_⟩
  · rw [hl _ (Ne.symm n0), hl _ (Ne.symm n2), hp _ m0]; exact h1
  · rw [hl _ (Ne.symm n1), hp _ m1]; exact h2
  · rw [hl _ (Ne.symm n0), hl _ (Ne.symm n1)]; exact h3
  · rw [hl _ (Ne.symm n0), hl _ (Ne.symm n2)]; exact h4
theorem twoJ_a0 {B T i0 i1 i2 d0 d1 : Nat} {c1 zs : Array Value} {l l' : Nat → Bool} {a : Act} {W : World} (h : twoJ B T i0 i1 i2 d0 d1 c1 zs l a.tmps W)
    (n1 : i1 ≠ i0) (n2 : i2 ≠ i0) (m1 : d1 ≠ d0) (hd : d0 < a.tmps.size) (hB : B ≤ W.heap.size) (ho : l i0 = false) (_ : l' i0 = true) (hl : ∀ j, j ≠ i0 → l' j = l j) : twoJ B T i0 i1 i2 d0 d1 c1 zs l' (a.put (some d0) (.pointer (some ⟨W.heap.size, 0, none⟩))).tmps (W.alloc (.cells zs T)) := by
  obtain ⟨g, k, h1, h2, h3, h4⟩ := h
  refine ⟨W.heap.size, k, fun _ => ⟨by simp [Act.put, hd], hB, by simp, zs, rfl, heapNew rfl, fun h => ?_, fun _ => rfl⟩, ?_, ?_, fun _ => by assumption⟩
  · rw [hl _ n2] at h; rw [h4 h] at ho; cases ho
  · rw [hl _ n1]
    intro h
    obtain ⟨k1, k2, k3, k5⟩ := h2 h
    refine ⟨?_, k2, by simp; omega, heapOld k5⟩
    simp only [Act.put]; exact (Array.getElem?_setIfInBounds_ne (Ne.symm m1)).trans k1
  · intro _ h
    rw [hl _ n1] at h
    have := (h2 h).2.2.1
    omega
theorem twoJ_a1 {B T i0 i1 i2 d0 d1 : Nat} {c1 zs : Array Value} {l l' : Nat → Bool} {a : Act} {W : World} (h : twoJ B T i0 i1 i2 d0 d1 c1 zs l a.tmps W)
    (n0 : i0 ≠ i1) (n2 : i2 ≠ i1) (m0 : d0 ≠ d1) (hd : d1 < a.tmps.size) (hB : B ≤ W.heap.size) (_ : l' i1 = true) (hl : ∀ j, j ≠ i1 → l' j = l j) : twoJ B T i0 i1 i2 d0 d1 c1 zs l' (a.put (some d1) (.pointer (some ⟨W.heap.size, 0, none⟩))).tmps (W.alloc (.cells zs T)) := by
  obtain ⟨g, k, h1, h2, h3, h4⟩ := h
  refine ⟨g, W.heap.size, ?_, fun _ => ⟨by simp [Act.put, hd], hB, by simp, heapNew rfl⟩, ?_, ?_⟩
  · rw [hl _ n0, hl _ n2]
    intro h
    obtain ⟨k1, k2, k3, cs, k4, k5, k6⟩ := h1 h
    refine ⟨?_, k2, by simp; omega, cs, k4, heapOld k5, k6⟩
    simp only [Act.put]; exact (Array.getElem?_setIfInBounds_ne (Ne.symm m0)).trans k1
  · intro h _
    rw [hl _ n0] at h
    have := (h1 h).2.2.1
    omega
  · rw [hl _ n0, hl _ n2]; exact h4
theorem twoJ_s {B T i0 i1 i2 d0 d1 : Nat} {c1 zs : Array Value} {l l' : Nat → Bool} {a : Act} {W : World} {g : Nat} {v : Value} (h : twoJ B T i0 i1 i2 d0 d1 c1 zs l a.tmps W)
    (n0 : i0 ≠ i2) (n1 : i1 ≠ i2) (hg : a.tmps[d0]? = some (.pointer (some ⟨g, 0, none⟩))) (hc : c1.size = zs.size) (ho : l i0 = true) (hs2 : l' i2 = true) (hl : ∀ j, j ≠ i2 → l' j = l j) : twoJ B T i0 i1 i2 d0 d1 c1 zs l' (a.put none v).tmps (W.setRow g c1) := by
  obtain ⟨g', k, h1, h2, h3, h4⟩ := h
  obtain ⟨k1, k2, k3, cs, k4, k5, k6⟩ := h1 ho
  obtain rfl : g' = g := by rw [hg] at k1; injection k1 with k1; injection k1 with k1; injection k1 with k1; injection k1 with k1; exact k1.symm
  refine ⟨g', k, fun _ => ⟨hg, k2, by rw [setRow_size]; exact k3, c1, hc, setRow_at k5, fun _ => rfl, fun h => ?_⟩, ?_, ?_, fun _ => by rw [hl _ n0]; exact ho⟩
  · rw [hs2] at h; cases h
  · rw [hl _ n1]
    intro h
    obtain ⟨q1, q2, q3, q5⟩ := h2 h
    exact ⟨q1, q2, by rw [setRow_size]; exact q3, (setRow_ne (Ne.symm (h3 ho h))).trans q5⟩
  · rw [hl _ n0, hl _ n1]; exact h3
/-- the law, the frame at the last operation told, and J of a frame that is not written out -/
theorem drawnJ3 {P : Program} {ops : Array Oper} {Q : Exit → Act → World → Prop} {id : Nat} {a : Act} {w : World} (hm : P.follows .mixedOrders = true) (L n : Nat) (ds : List Nat) (G : Nat → World → Prop) (F : Nat → Value → World → Prop) (R : Nat → World → World → Prop) (J : (Nat → Bool) → Array Value → World → Prop)
    (hn : a.tmps.size = n) (hok : drawnOkJ ops L n = true) (hds : (ops.toList.take L).filterMap (·.dst) = ds) (hd : a.defers = [])
    (hJ0 : J (fun _ => false) a.tmps w.drew) (hG : ∀ j, j ≤ L → G j w.drew) (hFm : ∀ i j v w w', i ≠ j → i < L → j < L → F i v w → R j w w' → F i v w') (hGm : ∀ i j w w', i ≠ j → i < L → j ≤ L → j ∉ ancs ops ops.size i → G j w → R i w w' → G j w')
    (hstep : ∀ (l : Nat → Bool) (i : Nat) (o : Oper) (a' : Act) (w' : World), J l a'.tmps w' → l i = false → (∀ e ∈ o.after, Region.binds .any e = true → l e.on = true) → i < L → ops[i]? = some o → a'.defers = [] → a'.tmps.size = n → (∀ t : Nat, (ops.toList.take L).all (fun o => !decide (o.dst = some t)) = true → a'.tmps[t]? = a.tmps[t]?) → G i w' → G L w' →
      (∀ j d, waitsFor ops i j = some d → ∃ v, a'.tmps[d]? = some v ∧ F j v w') → o.wp P a' w' (fun a2 w2 => ∃ v, a2 = a'.put o.dst v ∧ R i w' w2 ∧ F i v w2 ∧ ∀ l' : Nat → Bool, l' i = true → (∀ j, j ≠ i → l' j = l j) → J l' (a'.put o.dst v).tmps w2) Q)
    (hlast : ∀ (l : Nat → Bool) (o : Oper) (u : Nat → Value) (w' : World) (t : Array Value), J l t w' → (∀ d, d ∈ ds → d < n → t[d]? = some (u d)) → (∀ j, j < L → l j = true) → ops[L]? = some o → G L w' → (∀ i d, i < L → dstOf ops i = some d → F i (u d) w') → o.wp P (ds.foldl (fun x d => x.put (some d) (u d)) a) w' (fun a2 w2 => Q .normal a2 w2) Q) :
    (Code.region id ops true).wp P Q a w :=
  drawnJ2 hm L n ds G F R J hn hok hds hd hJ0 hG hFm hGm hstep fun l o u w' hJ hl ho hGL hw => hlast l o u w' _ hJ (fun d hd hdn => by rw [puts_get u d ds a (by omega), if_pos hd]) hl ho hGL hw
/-- at the region's last operation -/
theorem twoJ_fin {B T i0 i1 i2 d0 d1 : Nat} {c1 zs : Array Value} {l : Nat → Bool} {t : Array Value} {W : World} {v0 v1 : Value} (h : twoJ B T i0 i1 i2 d0 d1 c1 zs l t W)
    (h0 : l i0 = true) (h1 : l i1 = true) (h2 : l i2 = true) (m0 : t[d0]? = some v0) (m1 : t[d1]? = some v1) :
    ∃ g h : Nat, v0 = .pointer (some ⟨g, 0, none⟩) ∧ v1 = .pointer (some ⟨h, 0, none⟩) ∧ B ≤ g ∧ B ≤ h ∧ g ≠ h ∧ W.heap[g]? = some (.cells c1 T (0, 0)) ∧ ∃ cs : Array Value, cs = zs ∧ W.heap[h]? = some (.cells cs T (0, 0)) := by
  obtain ⟨g, h, j1, j2, j3, -⟩ := h
  obtain ⟨t6, hBg, _, cs, _, hrow, hcs1, -⟩ := j1 h0
  obtain rfl := hcs1 h2
  obtain ⟨t7, hBh, _, hrow2⟩ := j2 h1
  rw [m0] at t6
  rw [m1] at t7
  exact ⟨g, h, Option.some.inj t6, Option.some.inj t7, hBg, hBh, j3 h0 h1, hrow, zs, rfl, hrow2⟩
end Go.Proofs.YtplekbpmfaghbaaGreatDoor
