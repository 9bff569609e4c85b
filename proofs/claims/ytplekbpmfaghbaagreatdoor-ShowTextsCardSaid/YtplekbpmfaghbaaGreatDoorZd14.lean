/- My own texts TwoJ, ShowE, ShowX, as far as this claim needs them. -/
import Derived.Test.YtplekbpmfaghbaaGreatDoorZd8
import Derived.Test.YtplekbpmfaghbaaGreatDoorZd9
import Derived.Test.YtplekbpmfaghbaaGreatDoorZd13
import Derived.Deep.RegionHeld3
set_option linter.unusedVariables false
set_option linter.unusedSimpArgs false
namespace Go.Proofs.YtplekbpmfaghbaaGreatDoor
open Go.RowKit
theorem below_set {B g : Nat} {w0 w : World} (hb : Below B w0 w) (hg : B ≤ g) (cs : Array Value) : Below B w0 (w.setRow g cs) :=
  ⟨hb.os, hb.tape, hb.output, by rw [setRow_size]; exact hb.size, fun k hk => (setRow_ne (by omega)).trans (hb.block k hk)⟩
theorem below_al {B : Nat} {w0 w : World} (hb : Below B w0 w) (hB : B ≤ w.heap.size) (o : Obj) : Below B w0 (w.alloc o) :=
  hb.trans ((belowA (Below.refl _ w) o).mono hB)
theorem range_on {w w' : World} {b o : Nat} {cs : List Value} (h : w.rangeAt b o cs) (hb : Below w.heap.size w w') : w'.rangeAt b o cs := fun j v hj => below_cell hb (h j v hj)
/-- two boxes, i and j, filled one behind the other -/
def twoJ (B T i0 i1 i2 d0 d1 : Nat) (c1 zs : Array Value) (l : Nat → Bool) (t : Array Value) (W : World) : Prop :=
  ∃ g h : Nat, (l i0 = true → t[d0]? = some (.pointer (some ⟨g, 0, none⟩)) ∧ B ≤ g ∧ g < W.heap.size ∧ ∃ cs : Array Value, cs.size = zs.size ∧ W.heap[g]? = some (.cells cs T (0, 0)) ∧ (l i2 = true → cs = c1) ∧ (l i2 = false → cs = zs)) ∧
    (l i1 = true → t[d1]? = some (.pointer (some ⟨h, 0, none⟩)) ∧ B ≤ h ∧ h < W.heap.size ∧ W.heap[h]? = some (.cells zs T (0, 0))) ∧
    (l i0 = true → l i1 = true → g ≠ h) ∧ (l i2 = true → l i0 = true)
theorem twoJ_val {B T i0 i1 i2 d0 d1 : Nat} {c1 zs : Array Value} {l l' : Nat → Bool} {a : Act} {W : World} {o : Option Tmp} {v : Value} {i : Nat} (h : twoJ B T i0 i1 i2 d0 d1 c1 zs l a.tmps W)
    (n0 : i ≠ i0) (n1 : i ≠ i1) (n2 : i ≠ i2) (m0 : o ≠ some d0) (m1 : o ≠ some d1) (_ : l' i = true) (hl : ∀ j, j ≠ i → l' j = l j) : twoJ B T i0 i1 i2 d0 d1 c1 zs l' (a.put o v).tmps W := by
  obtain ⟨g, k, h1, h2, h3, h4⟩ := h
  have hp : ∀ d : Nat, o ≠ some d → (a.put o v).tmps[d]? = a.tmps[d]? := fun d hd => by
    cases o with
    | none => rfl
    | some q => simp only [Act.put]; exact Array.getElem?_setIfInBounds_ne (by intro e; exact hd (by rw [e]))
  refine ⟨g, k, ?_, ?_, ?_, ?_⟩
  · rw [hl _ (Ne.symm n0), hl _ (Ne.symm n2), hp _ m0]; exact h1
  · rw [hl _ (Ne.symm n1), hp _ m1]; exact h2
  · rw [hl _ (Ne.symm n0), hl _ (Ne.symm n1)]; exact h3
  · rw [hl _ (Ne.symm n0), hl _ (Ne.symm n2)]; exact h4
theorem twoJ_a0 {B T i0 i1 i2 d0 d1 : Nat} {c1 zs : Array Value} {l l' : Nat → Bool} {a : Act} {W : World} (h : twoJ B T i0 i1 i2 d0 d1 c1 zs l a.tmps W)
    (n1 : i1 ≠ i0) (n2 : i2 ≠ i0) (m1 : d1 ≠ d0) (hd : d0 < a.tmps.size) (hB : B ≤ W.heap.size) (ho : l i0 = false) (_ : l' i0 = true) (hl : ∀ j, j ≠ i0 → l' j = l j) : twoJ B T i0 i1 i2 d0 d1 c1 zs l' (a.put (some d0) (.pointer (some ⟨W.heap.size, 0, none⟩))).tmps (W.alloc (.cells zs T)) := by
  obtain ⟨g, k, h1, h2, h3, h4⟩ := h
  refine ⟨W.heap.size, k, fun _ => ⟨by simp [Act.put, hd], hB, by simp, zs, rfl, heapNew rfl, fun h => ?_, fun _ => rfl⟩, ?_, ?_, fun _ => by assumption⟩
  · rw [hl _ n2] at h; rw [h4 h] at ho; cases ho
  · rw [hl _ n1]
    intro h
    obtain ⟨k1, k2, k3, k5⟩ := h2 h
    refine ⟨?_, k2, by simp; omega, heapOld k5⟩
    simp only [Act.put]; exact (Array.getElem?_setIfInBounds_ne (Ne.symm m1)).trans k1
  · intro _ h
    rw [hl _ n1] at h
    have := (h2 h).2.2.1
    omega
theorem twoJ_a1 {B T i0 i1 i2 d0 d1 : Nat} {c1 zs : Array Value} {l l' : Nat → Bool} {a : Act} {W : World} (h : twoJ B T i0 i1 i2 d0 d1 c1 zs l a.tmps W)
    (n0 : i0 ≠ i1) (n2 : i2 ≠ i1) (m0 : d0 ≠ d1) (hd : d1 < a.tmps.size) (hB : B ≤ W.heap.size) (_ : l' i1 = true) (hl : ∀ j, j ≠ i1 → l' j = l j) : twoJ B T i0 i1 i2 d0 d1 c1 zs l' (a.put (some d1) (.pointer (some ⟨W.heap.size, 0, none⟩))).tmps (W.alloc (.cells zs T)) := by
  obtain ⟨g, k, h1, h2, h3, h4⟩ := h
  refine ⟨g, W.heap.size, ?_, fun _ => ⟨by simp [Act.put, hd], hB, by simp, heapNew rfl⟩, ?_, ?_⟩
  · rw [hl _ n0, hl _ n2]
    intro h
    obtain ⟨k1, k2, k3, cs, k4, k5, k6⟩ := h1 h
    refine ⟨?_, k2, by simp; omega, cs, k4, heapOld k5, k6⟩
    simp only [Act.put]; exact (Array.getElem?_setIfInBounds_ne (Ne.symm m0)).trans k1
  · intro h _
    rw [hl _ n0] at h
    have := (h1 h).2.2.1
    omega
  · rw [hl _ n0, hl _ n2]; exact h4
theorem twoJ_s {B T i0 i1 i2 d0 d1 : Nat} {c1 zs : Array Value} {l l' : Nat → Bool} {a : Act} {W : World} {g : Nat} {v : Value} (h : twoJ B T i0 i1 i2 d0 d1 c1 zs l a.tmps W)
    (n0 : i0 ≠ i2) (n1 : i1 ≠ i2) (hg : a.tmps[d0]? = some (.pointer (some ⟨g, 0, none⟩))) (hc : c1.size = zs.size) (ho : l i0 = true) (hs2 : l' i2 = true) (hl : ∀ j, j ≠ i2 → l' j = l j) : twoJ B T i0 i1 i2 d0 d1 c1 zs l' (a.put none v).tmps (W.setRow g c1) := by
  obtain ⟨g', k, h1, h2, h3, h4⟩ := h
  obtain ⟨k1, k2, k3, cs, k4, k5, k6⟩ := h1 ho
  obtain rfl : g' = g := by rw [hg] at k1; injection k1 with k1; injection k1 with k1; injection k1 with k1; injection k1 with k1; exact k1.symm
  refine ⟨g', k, fun _ => ⟨hg, k2, by rw [setRow_size]; exact k3, c1, hc, setRow_at k5, fun _ => rfl, fun h => ?_⟩, ?_, ?_, fun _ => by rw [hl _ n0]; exact ho⟩
  · rw [hs2] at h; cases h
  · rw [hl _ n1]
    intro h
    obtain ⟨q1, q2, q3, q5⟩ := h2 h
    exact ⟨q1, q2, by rw [setRow_size]; exact q3, (setRow_ne (Ne.symm (h3 ho h))).trans q5⟩
  · rw [hl _ n0, hl _ n1]; exact h3
/-- the law, the frame at the last operation told, and J of a frame that is not written out -/
theorem drawnJ3 {P : Program} {ops : Array Oper} {Q : Exit → Act → World → Prop} {id : Nat} {a : Act} {w : World} (hm : P.follows .mixedOrders = true) (L n : Nat) (ds : List Nat) (G : Nat → World → Prop) (F : Nat → Value → World → Prop) (R : Nat → World → World → Prop) (J : (Nat → Bool) → Array Value → World → Prop)
    (hn : a.tmps.size = n) (hok : drawnOkJ ops L n = true) (hds : (ops.toList.take L).filterMap (·.dst) = ds) (hd : a.defers = [])
    (hJ0 : J (fun _ => false) a.tmps w.drew) (hG : ∀ j, j ≤ L → G j w.drew) (hFm : ∀ i j v w w', i ≠ j → i < L → j < L → F i v w → R j w w' → F i v w') (hGm : ∀ i j w w', i ≠ j → i < L → j ≤ L → j ∉ ancs ops ops.size i → G j w → R i w w' → G j w')
    (hstep : ∀ (l : Nat → Bool) (i : Nat) (o : Oper) (a' : Act) (w' : World), J l a'.tmps w' → l i = false → (∀ e ∈ o.after, Region.binds .any e = true → l e.on = true) → i < L → ops[i]? = some o → a'.defers = [] → a'.tmps.size = n → (∀ t : Nat, (ops.toList.take L).all (fun o => !decide (o.dst = some t)) = true → a'.tmps[t]? = a.tmps[t]?) → G i w' → G L w' →
      (∀ j d, waitsFor ops i j = some d → ∃ v, a'.tmps[d]? = some v ∧ F j v w') → o.wp P a' w' (fun a2 w2 => ∃ v, a2 = a'.put o.dst v ∧ R i w' w2 ∧ F i v w2 ∧ ∀ l' : Nat → Bool, l' i = true → (∀ j, j ≠ i → l' j = l j) → J l' (a'.put o.dst v).tmps w2) Q)
    (hlast : ∀ (l : Nat → Bool) (o : Oper) (u : Nat → Value) (w' : World) (t : Array Value), J l t w' → (∀ d, d ∈ ds → d < n → t[d]? = some (u d)) → (∀ j, j < L → l j = true) → ops[L]? = some o → G L w' → (∀ i d, i < L → dstOf ops i = some d → F i (u d) w') → o.wp P (ds.foldl (fun x d => x.put (some d) (u d)) a) w' (fun a2 w2 => Q .normal a2 w2) Q) :
    (Code.region id ops true).wp P Q a w :=
  drawnJ2 hm L n ds G F R J hn hok hds hd hJ0 hG hFm hGm hstep fun l o u w' hJ hl ho hGL hw => hlast l o u w' _ hJ (fun d hd hdn => by rw [puts_get u d ds a (by omega), if_pos hd]) hl ho hGL hw
/-- at the region's last operation -/
theorem twoJ_fin {B T i0 i1 i2 d0 d1 : Nat} {c1 zs : Array Value} {l : Nat → Bool} {t : Array Value} {W : World} {v0 v1 : Value} (h : twoJ B T i0 i1 i2 d0 d1 c1 zs l t W)
    (h0 : l i0 = true) (h1 : l i1 = true) (h2 : l i2 = true) (m0 : t[d0]? = some v0) (m1 : t[d1]? = some v1) :
    ∃ g h : Nat, v0 = .pointer (some ⟨g, 0, none⟩) ∧ v1 = .pointer (some ⟨h, 0, none⟩) ∧ B ≤ g ∧ B ≤ h ∧ g ≠ h ∧ W.heap[g]? = some (.cells c1 T (0, 0)) ∧ ∃ cs : Array Value, cs = zs ∧ W.heap[h]? = some (.cells cs T (0, 0)) := by
  obtain ⟨g, h, j1, j2, j3, -⟩ := h
  obtain ⟨t6, hBg, _, cs, _, hrow, hcs1, -⟩ := j1 h0
  obtain rfl := hcs1 h2
  obtain ⟨t7, hBh, _, hrow2⟩ := j2 h1
  rw [m0] at t6
  rw [m1] at t7
  exact ⟨g, h, Option.some.inj t6, Option.some.inj t7, hBg, hBh, j3 h0 h1, hrow, zs, rfl, hrow2⟩
end Go.Proofs.YtplekbpmfaghbaaGreatDoor

namespace Go.Proofs.YtplekbpmfaghbaaGreatDoor
open Go.RowKit
set_option maxRecDepth 100000 in
set_option maxHeartbeats 1000000 in
theorem shown_any (t : GTold) (hv : fits t.v.n) (w : World) (h : TabW w) : Calls Tryz.prog 115 #[toldV t] w (RetV (.string (bytes (shownT t))) w) := by
  obtain ⟨S, HS⟩ : ∃ S, Hid (S = shownT t) := ⟨_, rfl⟩
  rw [← HS.out]
  have hrb : (w.alloc (.cells #[.string t.x, .int .i64 t.v.k, .int .i64 t.v.n, .string t.v.s] 33)).heap[w.heap.size]? = some (.cells #[.string t.x, .int .i64 t.v.k, .int .i64 t.v.n, .string t.v.s] 33 (0, 0)) := heapNew rfl
  have hba : Below w.heap.size w (w.alloc (.cells #[.string t.x, .int .i64 t.v.k, .int .i64 t.v.n, .string t.v.s] 33)) := belowA (Below.refl _ _) _
  have HR := Lib.hid (text_any t.v hv _ (h.on hba))
  obtain ⟨b0, b1, b2, b3⟩ := facts4 hrb
  clear h
  by_cases h0 : t.x.size = 0
  · have e0 : (t.x.toList == ([] : List UInt8)) = true := by simp [str_empty.2 h0]
    have e1 : t.x.toList.isEmpty = true := by simp [str_empty.2 h0]
    have HE : Hid (S = textOf t.v) := by show _ = _; rw [HS.out]; simp [shownT, h0]
    clear h0 HS
    go_enter Tryz.func115, Tryz.ntmps115
    go_wp2_with fail
    refine HR.out.mono ?_
    rintro e w1 ⟨rfl, hb⟩
    have Hb := Lib.hid hb
    clear hb
    go_wp2_with fail
    go_ret
    exact ⟨by rw [HE.out]; rfl, below_next hba Hb.out⟩
  · have e0 : (t.x.toList == ([] : List UInt8)) = false := by simp [str_empty, h0]
    have e1 : t.x.toList.isEmpty = false := by simp [str_empty, h0]
    have HE : Hid (bytes S = t.x) := by show _ = _; rw [HS.out]; simp only [shownT, if_neg h0]; exact bytes_of _
    clear h0 HS HR
    go_enter Tryz.func115, Tryz.ntmps115
    go_wp2_with fail
    go_ret
    exact ⟨by rw [HE.out]; rfl, hba⟩
set_option maxRecDepth 100000 in
theorem sum_any (e : GExp) (A : Option Addr) (n c : Nat) (w : World) : Calls Tryz.prog 117 #[expV e A n c] w (RetBool (sumB e) w) := by
  obtain ⟨S, HS⟩ : ∃ S, Hid (S = sumB e) := ⟨_, rfl⟩
  rw [← HS.out]
  have hba : Below w.heap.size w (w.alloc (.cells (expC e A n c).toArray 36)) := belowA (Below.refl _ _) _
  by_cases h0 : 0 < e.op
  · by_cases h3 : e.op < 3
    · have HE : Hid (S = true) := by show _ = _; rw [HS.out]; simp [sumB, h0, h3]
      clear HS
      go_enter Tryz.func117, Tryz.ntmps117
      go_wp2_with fail
      go_ret
      exact ⟨by rw [HE.out]; simp [*], hba⟩
    · have HE : Hid (S = false) := by show _ = _; rw [HS.out]; simp [sumB, h0, h3]
      clear HS
      go_enter Tryz.func117, Tryz.ntmps117
      go_wp2_with fail
      go_ret
      exact ⟨by rw [HE.out]; simp [*], hba⟩
  · have HE : Hid (S = false) := by show _ = _; rw [HS.out]; simp [sumB, h0]
    clear HS
    go_enter Tryz.func117, Tryz.ntmps117
    go_wp2_with fail
    go_ret
    exact ⟨by rw [HE.out]; simp [*], hba⟩
theorem bytes_in (s : List UInt8) : (⟨#[40]⟩ : ByteArray) ++ bytes s ++ ⟨#[41]⟩ = bytes (inB true s) := by
  show bytes [40] ++ bytes s ++ bytes [41] = _
  rw [bytes_app, bytes_app]; rfl
set_option maxRecDepth 100000 in
theorem within_any (e : GExp) (A : Option Addr) (n c : Nat) (b : Bool) (s : List UInt8) (w : World) (hs : s.length ≤ 1000000000000)
    (H : ∀ W, Below w.heap.size w W → Calls Tryz.prog 74 #[expV e A n c] W (RetV (.string (bytes s)) W)) : Calls Tryz.prog 116 #[expV e A n c, .bool b] w (RetV (.string (bytes (inB b s))) w) := by
  have hba : Below w.heap.size w (w.alloc (.cells (expC e A n c).toArray 36)) := belowA (Below.refl _ _) _
  have HC := Lib.hid (H _ hba)
  clear H
  cases b with
  | false =>
    go_enter Tryz.func116, Tryz.ntmps116
    go_wp2_with fail
    refine HC.out.mono ?_
    rintro r w1 ⟨rfl, hb⟩
    go_wp2_with fail
    go_ret
    exact ⟨rfl, below_next hba hb⟩
  | true =>
    go_enter Tryz.func116, Tryz.ntmps116
    go_wp2_with fail
    refine HC.out.mono ?_
    rintro r w1 ⟨rfl, hb⟩
    have HI := Lib.hid (bytes_in s)
    have hz : (bytes s).size ≤ 1000000000000 := hs
    generalize bytes s = sb at *
    have hz1 : ¬ (9223372036854775807 < 1 + sb.size) := by omega
    have hz2 : ¬ (9223372036854775807 < sb.size + 1) := by omega
    have hz3 : ¬ (9223372036854775806 < sb.size) := by omega
    go_wp2_with fail
    go_ret
    exact ⟨by rw [HI.out]; rfl, below_next hba hb⟩
end Go.Proofs.YtplekbpmfaghbaaGreatDoor

namespace Go.Proofs.YtplekbpmfaghbaaGreatDoor
open Go.RowKit
/-- the three lists of texts of package show -/
def opsL : List (List UInt8) := [[], [43], [45], [42]]
def sgnsL : List (List UInt8) := [[], [61], [33, 61], [60], [60, 61], [62], [62, 61]]
def aggsL : List (List UInt8) := [[], [99, 111, 117, 110, 116], [115, 117, 109], [109, 105, 110], [109, 97, 120]]
structure ShowW (W : World) : Prop where
  tab : TabW W
  ops : StrsW 1 opsL W
  signs : StrsW 0 sgnsL W
  aggs : StrsW 2 aggsL W
theorem ShowW.on {w W : World} (h : ShowW w) (hb : Below w.heap.size w W) : ShowW W := ⟨h.tab.on hb, h.ops.on hb, h.signs.on hb, h.aggs.on hb⟩
theorem StrsW.cell {g : Nat} {L : List (List UInt8)} {W : World} (h : StrsW g L W) {i : Nat} {l : List UInt8} (hl : L[i]? = some l) : W.cell? ⟨g, i, none⟩ = some (.string (bytes l)) := by
  obtain ⟨t, fr, h⟩ := h
  rw [cell_of_row _ _ i _ _ _ h]
  simp [hl]
def zxC : List Value := [.int .i64 0, .string ⟨#[]⟩, .int .i64 0, .int .i64 0, .string ⟨#[]⟩, .slice none 0 0]
def sxF (A : Option Addr) (n c : Nat) (b o : Nat) (x1 y1 : List Value) (g : Nat) (i : Nat) (v : Value) (_W : World) : Prop := match i with
  | 0 => v = .pointer (some ⟨g, 5, none⟩)
  | 1 => v = .slice A n c
  | 2 => v = .pointer (some ⟨b, o, none⟩)
  | 3 => v = .agg x1.toArray
  | 4 => v = .pointer (some ⟨g, 5, none⟩)
  | 5 => v = .slice A n c
  | 6 => v = .pointer (some ⟨b, o + 6, none⟩)
  | 7 => v = .agg y1.toArray
  | _ => True
theorem inB_ge (b : Bool) (s : List UInt8) : s.length ≤ (inB b s).length := by
  cases b
  · simp [inB]
  · simp only [inB, if_true, List.length_append, List.length_cons, List.length_nil]; omega
theorem rightE_parts {k : Nat} {e : GExp} (h0 : ¬ e.op = 0) (h : rightE k e = true) : ∃ k' a b, k = k' + 1 ∧ e.kids = [a, b] ∧ 1 ≤ e.op ∧ e.op ≤ 3 ∧ rightE k' a = true ∧ rightE k' b = true := by
  cases k with
  | zero => rw [rightE_flat h0] at h; cases h
  | succ k =>
    by_cases h2 : opE e = true
    · match hk : e.kids with
      | [a, b] =>
        rw [rightE_two h0 h2 hk] at h
        simp only [Bool.and_eq_true] at h
        unfold opE at h2
        simp only [Bool.and_eq_true, decide_eq_true_eq] at h2
        exact ⟨k, a, b, rfl, rfl, h2.1.1, h2.1.2, h.1, h.2⟩
      | [] => rw [rightE_kids h0 (by rw [hk]; simp)] at h; cases h
      | [a] => rw [rightE_kids h0 (by rw [hk]; simp)] at h; cases h
      | a :: b :: c :: r => rw [rightE_kids h0 (by rw [hk]; simp)] at h; cases h
    · rw [rightE_bad h0 (by simpa using h2)] at h; cases h
set_option maxRecDepth 100000 in
set_option maxHeartbeats 4000000 in
theorem exp2_any : ∀ (k : Nat) (e : GExp) (A : Option Addr) (n c d : Nat) (w : World), rightE k e = true → SliceIs (Enc.exp d) w w.heap.size A n c e.kids → fits e.t.v.n → ShowW w → (expS k e).length ≤ 1000000000000 →
    Calls Tryz.prog 74 #[expV e A n c] w (RetV (.string (bytes (expS k e))) w) := by
  intro k
  induction k using Nat.strongRecOn with
  | ind k ih =>
    intro e A n c d w hr hk hv hW hlen
    obtain ⟨o, t, ks⟩ := e
    replace hk : SliceIs (Enc.exp d) w w.heap.size A n c ks := hk
    replace hv : fits t.v.n := hv
    show Calls Tryz.prog 74 #[.agg #[.int .i64 o, .string t.x, .int .i64 t.v.k, .int .i64 t.v.n, .string t.v.s, .slice A n c]] w (RetV (.string (bytes (expS k (.mk o t ks)))) w)
    have mixed : Tryz.prog.follows .mixedOrders = true := by kernel_rfl
    have IH := Lib.hid ih
    obtain ⟨S, HS⟩ : ∃ S, Hid (S = expS k (.mk o t ks)) := ⟨_, rfl⟩
    rw [← HS.out]
    have hrb : (w.alloc (.cells #[.int .i64 o, .string t.x, .int .i64 t.v.k, .int .i64 t.v.n, .string t.v.s, .slice A n c] 36)).heap[w.heap.size]? = some (.cells #[.int .i64 o, .string t.x, .int .i64 t.v.k, .int .i64 t.v.n, .string t.v.s, .slice A n c] 36 (0, 0)) := heapNew rfl
    have hba : Below w.heap.size w (w.alloc (.cells #[.int .i64 o, .string t.x, .int .i64 t.v.k, .int .i64 t.v.n, .string t.v.s, .slice A n c] 36)) := belowA (Below.refl _ _) _
    have HW := Lib.hid (hW.on hba)
    have HK := Lib.hid (hk.keep hba)
    have HN := Lib.hid hk.1
    obtain ⟨c0, c1, c2, c3, c4, c5⟩ := facts6 hrb
    have Hrb := Lib.hid hrb
    have Hba := Lib.hid hba
    clear ih hk hW hrb hba
    by_cases h0 : o = 0
    · have e0 : (o == 0) = true := by simp [h0]
      have HE : Hid (S = shownT t) := by show _ = _; rw [HS.out, expS_leaf (e := .mk o t ks) h0]; rfl
      have HC := Lib.hid (shown_any t hv _ HW.out.tab)
      clear HS h0 hr hlen HK HN IH HW
      go_enter Tryz.func74, Tryz.ntmps74
      go_wp2_with fail
      refine HC.out.mono ?_
      rintro r w1 ⟨rfl, hb⟩
      have Hb := Lib.hid hb
      clear hb HC
      go_wp2_with fail
      go_ret
      exact ⟨by rw [HE.out]; rfl, below_next Hba.out Hb.out⟩
    have hkids0 := rightE_parts (e := .mk o t ks) h0 hr
    obtain ⟨k, ka, kb, rfl, hkids, ho1, ho3, hra, hrb⟩ := hkids0
    replace ho1 : 1 ≤ o := ho1
    replace ho3 : o ≤ 3 := ho3
    replace hkids : ks = [ka, kb] := hkids
    have e0 : (o == 0) = false := by simp [h0]
    obtain ⟨j, hj⟩ : ∃ j : Nat, o = (j : Int) := ⟨o.toNat, by omega⟩
    subst hj
    have hn2 : n = 2 := by have := HN.out; rw [hkids] at this; simpa using this.symm
    subst hn2
    obtain ⟨b1, o1, kx, cs1, hA1, _, h1, ok1, hc1⟩ := HK.out.at_ (show 0 < 2 by omega)
    obtain ⟨b2, o2, ky, cs2, hA2, _, h2, ok2, hc2⟩ := HK.out.at_ (show 1 < 2 by omega)
    obtain rfl : kx = ka := by have := h1.out; rw [hkids] at this; simpa using this.symm
    obtain rfl : ky = kb := by have := h2.out; rw [hkids] at this; simpa using this.symm
    obtain rfl : A = _ := hA1
    obtain ⟨rfl, rfl⟩ : b1 = b2 ∧ o1 = o2 := by injection hA2 with h; injection h with h h'; exact ⟨h, h'⟩
    rw [Enc.exp_sz] at hc1 hc2
    obtain ⟨g, rfl⟩ : ∃ g, d = g + 1 := by cases d with
      | zero => exact ok1.elim
      | succ g => exact ⟨g, rfl⟩
    obtain ⟨A1, n1, a1, rfl, -, -, hv1, k1⟩ := ok1
    obtain ⟨A2, n2, a2, rfl, -, -, hv2, k2⟩ := ok2
    have hS : expS (k + 1) (.mk (j : Int) t ks) = inB (decide ((j : Int) = 3) && sumB kx) (expS k kx) ++ [32] ++ opS (j : Int) ++ [32] ++ inB (sumB ky || (decide ((j : Int) = 3) && decide (ky.op = 3))) (expS k ky) := expS_two (e := .mk (j : Int) t ks) h0 hkids
    have hl0 := hlen
    rw [hS] at hl0
    have hla : (expS k kx).length ≤ 1000000000000 := by
      have : (expS k kx).length ≤ (inB (decide ((j : Int) = 3) && sumB kx) (expS k kx)).length := inB_ge _ _
      simp only [List.length_append] at hl0
      omega
    have hlb : (expS k ky).length ≤ 1000000000000 := by
      have : (expS k ky).length ≤ (inB (sumB ky || (decide ((j : Int) = 3) && decide (ky.op = 3))) (expS k ky)).length := inB_ge _ _
      simp only [List.length_append] at hl0
      omega
    have HC1 := Lib.hid (fun (W : World) (hb : Below (w.alloc (.cells #[.int .i64 (j : Int), .string t.x, .int .i64 t.v.k, .int .i64 t.v.n, .string t.v.s, .slice (some ⟨b1, o1, none⟩) 2 c] 36)).heap.size (w.alloc (.cells #[.int .i64 (j : Int), .string t.x, .int .i64 t.v.k, .int .i64 t.v.n, .string t.v.s, .slice (some ⟨b1, o1, none⟩) 2 c] 36)) W) => IH.out k (by omega) kx A1 n1 a1 g W hra (k1.keep hb) hv1.2.1 (HW.out.on hb) hla)
    have HC2 := Lib.hid (fun (W : World) (hb : Below (w.alloc (.cells #[.int .i64 (j : Int), .string t.x, .int .i64 t.v.k, .int .i64 t.v.n, .string t.v.s, .slice (some ⟨b1, o1, none⟩) 2 c] 36)).heap.size (w.alloc (.cells #[.int .i64 (j : Int), .string t.x, .int .i64 t.v.k, .int .i64 t.v.n, .string t.v.s, .slice (some ⟨b1, o1, none⟩) 2 c] 36)) W) => IH.out k (by omega) ky A2 n2 a2 g W hrb (k2.keep hb) hv2.2.1 (HW.out.on hb) hlb)
    have Hc1 : Hid ((w.alloc (.cells #[.int .i64 (j : Int), .string t.x, .int .i64 t.v.k, .int .i64 t.v.n, .string t.v.s, .slice (some ⟨b1, o1, none⟩) 2 c] 36)).rangeAt b1 o1 (expC kx A1 n1 a1)) := fun j v hj => by simpa using hc1 j v hj
    have Hc2 : Hid ((w.alloc (.cells #[.int .i64 (j : Int), .string t.x, .int .i64 t.v.k, .int .i64 t.v.n, .string t.v.s, .slice (some ⟨b1, o1, none⟩) 2 c] 36)).rangeAt b1 (o1 + 6) (expC ky A2 n2 a2)) := fun j v hj => by simpa using hc2 j v hj
    clear h1 h2 hc1 hc2 k1 k2 hA2 hra hrb HK HN IH hr hv hv1 hv2
    generalize hwb : (w.alloc (.cells #[.int .i64 (j : Int), .string t.x, .int .i64 t.v.k, .int .i64 t.v.n, .string t.v.s, .slice (some ⟨b1, o1, none⟩) 2 c] 36)) = wb at *
    have Hwb := Lib.hid hwb
    go_enter Tryz.func74, Tryz.ntmps74
    go_wp2_with fail
    try simp only [hwb]
    clear hwb
    go_wp2_with fail
    refine drawnJ3 mixed 11 54 [13, 14, 15, 16, 17, 18, 19, 20, 3, 4] (fun _ W => Below wb.heap.size wb W) (sxF (some ⟨b1, o1, none⟩) 2 c b1 o1 (expC kx A1 n1 a1) (expC ky A2 n2 a2) w.heap.size) (fun _ W W' => Below wb.heap.size W W')
      (twoJ wb.heap.size 36 8 9 10 3 4 (expC kx A1 n1 a1).toArray zxC.toArray) rfl (by kernel_rfl) (by kernel_rfl) rfl ⟨0, 0, (fun h => by cases h), (fun h => by cases h), (fun h => by cases h), (fun h => by cases h)⟩ (fun j _ => below_drewN _ 1 _) (fun i j v W W' _ _ _ h _ => by unfold sxF at h ⊢; exact h) (fun _ _ _ _ _ _ _ _ h h' => h.trans h') ?_ ?_
    · intro l i o2' fa W hJ hli hlw hi ho hd hsz hold hG _ hw
      have hr1 : fa.tmps[1]? = some (.pointer (some ⟨w.heap.size, 0, none⟩)) := hold 1 (by kernel_rfl)
      have hgX := (hG.block _ (Array.getElem?_eq_some_iff.1 Hrb.out).1).trans Hrb.out
      have f5 : W.cell? ⟨w.heap.size, 5, none⟩ = some (.slice (some ⟨b1, o1, none⟩) 2 c) := (cell_of_row _ _ 5 _ _ _ hgX).trans rfl
      clear hold
      match i, hi, ho with
      | 0, _, ho =>
        injection ho with ho; subst ho
        exact op_val _ (by simp [execOp, Act.eval, hr1, go_sem]) ⟨_, rfl, Below.refl _ _, rfl, fun l' h1 h2 => twoJ_val hJ (by decide) (by decide) (by decide) (by decide) (by decide) h1 h2⟩
      | 1, _, ho =>
        injection ho with ho; subst ho
        obtain ⟨v0, h0, e0'⟩ := hw 0 13 (by kernel_rfl)
        obtain rfl : v0 = _ := e0'
        exact op_val _ (by simp [execOp, Act.eval, h0, run_load1 Tryz.underlying34 f5]) ⟨_, rfl, Below.refl _ _, rfl, fun l' h1 h2 => twoJ_val hJ (by decide) (by decide) (by decide) (by decide) (by decide) h1 h2⟩
      | 2, _, ho =>
        injection ho with ho; subst ho
        obtain ⟨v0, h0, e0'⟩ := hw 1 14 (by kernel_rfl)
        obtain rfl : v0 = _ := e0'
        exact op_val _ (by simp [execOp, Act.eval, h0, go_sem]) ⟨_, rfl, Below.refl _ _, rfl, fun l' h1 h2 => twoJ_val hJ (by decide) (by decide) (by decide) (by decide) (by decide) h1 h2⟩
      | 3, _, ho =>
        injection ho with ho; subst ho
        obtain ⟨v0, h0, e0'⟩ := hw 2 15 (by kernel_rfl)
        obtain rfl : v0 = _ := e0'
        exact wp_load_mid 36 (.tmp 15) rfl _ _ (eval_tmp h0) (expC kx A1 n1 a1) _ (range_on Hc1.out hG) Tryz.underlying36 rfl (exp_size _ _ _ _) ⟨_, rfl, Below.refl _ _, rfl, fun l' h1 h2 => twoJ_val hJ (by decide) (by decide) (by decide) (by decide) (by decide) h1 h2⟩
      | 4, _, ho =>
        injection ho with ho; subst ho
        exact op_val _ (by simp [execOp, Act.eval, hr1, go_sem]) ⟨_, rfl, Below.refl _ _, rfl, fun l' h1 h2 => twoJ_val hJ (by decide) (by decide) (by decide) (by decide) (by decide) h1 h2⟩
      | 5, _, ho =>
        injection ho with ho; subst ho
        obtain ⟨v0, h0, e0'⟩ := hw 4 17 (by kernel_rfl)
        obtain rfl : v0 = _ := e0'
        exact op_val _ (by simp [execOp, Act.eval, h0, run_load1 Tryz.underlying34 f5]) ⟨_, rfl, Below.refl _ _, rfl, fun l' h1 h2 => twoJ_val hJ (by decide) (by decide) (by decide) (by decide) (by decide) h1 h2⟩
      | 6, _, ho =>
        injection ho with ho; subst ho
        obtain ⟨v0, h0, e0'⟩ := hw 5 18 (by kernel_rfl)
        obtain rfl : v0 = _ := e0'
        exact op_val _ (by simp [execOp, Act.eval, h0, go_sem]) ⟨_, rfl, Below.refl _ _, rfl, fun l' h1 h2 => twoJ_val hJ (by decide) (by decide) (by decide) (by decide) (by decide) h1 h2⟩
      | 7, _, ho =>
        injection ho with ho; subst ho
        obtain ⟨v0, h0, e0'⟩ := hw 6 19 (by kernel_rfl)
        obtain rfl : v0 = _ := e0'
        exact wp_load_mid 36 (.tmp 19) rfl _ _ (eval_tmp h0) (expC ky A2 n2 a2) _ (range_on Hc2.out hG) Tryz.underlying36 rfl (exp_size _ _ _ _) ⟨_, rfl, Below.refl _ _, rfl, fun l' h1 h2 => twoJ_val hJ (by decide) (by decide) (by decide) (by decide) (by decide) h1 h2⟩
      | 8, _, ho =>
        injection ho with ho; subst ho
        exact op_alloc 36 rfl zxC.toArray 6 (by kernel_rfl) ⟨_, rfl, below_al (Below.refl _ _) hG.size _, trivial, fun l' h1 h2 => twoJ_a0 hJ (by decide) (by decide) (by decide) (by rw [hsz]; decide) hG.size hli h1 h2⟩
      | 9, _, ho =>
        injection ho with ho; subst ho
        exact op_alloc 36 rfl zxC.toArray 6 (by kernel_rfl) ⟨_, rfl, below_al (Below.refl _ _) hG.size _, trivial, fun l' h1 h2 => twoJ_a1 hJ (by decide) (by decide) (by decide) (by rw [hsz]; decide) hG.size h1 h2⟩
      | 10, _, ho =>
        injection ho with ho; subst ho
        have hl8 : l 8 = true := hlw ⟨8, .data⟩ (by simp) rfl
        obtain ⟨v0, h0, e0'⟩ := hw 3 16 (by kernel_rfl)
        obtain rfl : v0 = _ := e0'
        obtain ⟨g, h, j1, j2, j3, j4⟩ := id hJ
        obtain ⟨t6, hBg, hgz, cs, hcs, hrow, -⟩ := j1 hl8
        exact wp_store_row 36 (.tmp 3) (.tmp 16) rfl g (expC kx A1 n1 a1).toArray (eval_tmp t6) (eval_tmp h0) 36 cs hrow (by kernel_rfl) (by rw [hcs]; rfl) (by simp [Value.oneCell']) ⟨undef, rfl, below_set (Below.refl _ _) hBg _, trivial, fun l' h1 h2 => twoJ_s hJ (by decide) (by decide) t6 rfl hl8 h1 h2⟩
      | n + 11, hi, _ => omega
    · intro l o2' u W tt hJ ht hlL ho hG hw
      have q0 := hw 7 20 (by decide) (by kernel_rfl)
      obtain ⟨g, h, t6', t7', hBg, hBh, hgh, hrow, cs2, hcs2, hrow2⟩ := twoJ_fin hJ (hlL 8 (by decide)) (hlL 9 (by decide)) (hlL 10 (by decide)) (ht 3 (by decide) (by decide)) (ht 4 (by decide) (by decide))
      injection ho with ho; subst ho
      clear hJ hlL ht
      simp only [List.foldl_cons, List.foldl_nil, Act.put, List.setIfInBounds_toArray, List.set_cons_zero, List.set_cons_succ]
      rw [show u 20 = Value.agg (expC ky A2 n2 a2).toArray from q0, t6', t7']
      refine wp_store_row 36 (.tmp 4) (.tmp 20) rfl h (expC ky A2 n2 a2).toArray rfl rfl 36 cs2 hrow2 (by kernel_rfl) (by rw [hcs2]; rfl) (by simp [Value.oneCell']) ?_
      have rX := Lib.hid ((setRow_ne (cs' := (expC ky A2 n2 a2).toArray) hgh).trans hrow)
      have rY := Lib.hid (setRow_at (cs' := (expC ky A2 n2 a2).toArray) hrow2)
      have hBW : Below wb.heap.size wb (W.setRow h (expC ky A2 n2 a2).toArray) := below_set hG hBh _
      have HBW := Lib.hid hBW
      clear hw q0 Hc1 Hc2 hG t6' t7' hrow hrow2 hcs2 hBW hBg hBh hgh
      generalize W.setRow _ _ = W2 at *
      simp only [Act.put]
      have HO := Lib.hid ((HBW.out.block _ (Array.getElem?_eq_some_iff.1 Hrb.out).1).trans Hrb.out)
      have D1 := Lib.hid (fun (V : World) (hb : Below W2.heap.size W2 V) (b : Bool) => within_any kx A1 n1 a1 b (expS k kx) V hla (fun V' hb' => HC1.out V' (below_next (below_next HBW.out hb) hb')))
      have D2 := Lib.hid (fun (V : World) (hb : Below W2.heap.size W2 V) (b : Bool) => within_any ky A2 n2 a2 b (expS k ky) V hlb (fun V' hb' => HC2.out V' (below_next (below_next HBW.out hb) hb')))
      obtain ⟨L, HL⟩ : ∃ L, Hid (L = inB (decide ((j : Int) = 3) && sumB kx) (expS k kx)) := ⟨_, rfl⟩
      obtain ⟨R, HR⟩ : ∃ R, Hid (R = inB (sumB ky || (decide ((j : Int) = 3) && decide (ky.op = 3))) (expS k ky)) := ⟨_, rfl⟩
      have HSS : Hid (S = L ++ [32] ++ opS (j : Int) ++ [32] ++ R) := by show _ = _; rw [HS.out, hS, HL.out, HR.out]
      have HLL : Hid (L.length ≤ 1000000000002 ∧ R.length ≤ 1000000000002) := by
        have h1 := inB_len (decide ((j : Int) = 3) && sumB kx) (expS k kx)
        have h2 := inB_len (sumB ky || (decide ((j : Int) = 3) && decide (ky.op = 3))) (expS k ky)
        rw [← HL.out] at h1
        rw [← HR.out] at h2
        exact ⟨by omega, by omega⟩
      have HJ := Lib.hid (And.intro ho1 ho3)
      have HDL := Lib.hid HL.out
      clear hS hl0 hlen hla hlb HS HC1 HC2 h0 e0 hkids ho1 ho3 c0 c1 c2 c3 c4 c5
      go_wp2_with fail
      go_cut [5] (fun v W => v = .string (bytes L) ∧ Below W2.heap.size W2 W)
      case first =>
        have HL2 := Lib.hid HL.out
        have k0 := (cell_of_row _ _ 0 _ _ _ HO.out).trans rfl
        have k1 := facts6 rX.out
        have Hk := Lib.hid (fun (V : World) (hb : Below W2.heap.size W2 V) => And.intro (below_cell hb k0) (And.intro (below_cell hb k1.1) (And.intro (below_cell hb k1.2.1) (And.intro (below_cell hb k1.2.2.1) (And.intro (below_cell hb k1.2.2.2.1) (And.intro (below_cell hb k1.2.2.2.2.1) (below_cell hb k1.2.2.2.2.2)))))))
        obtain ⟨m0, m1, m2, m3, m4, m5⟩ := k1
        have hb1 := Below.refl W2.heap.size W2
        have HS1 := Lib.hid (fun V => sum_any kx A1 n1 a1 V)
        clear HR HSS HLL HBW HW rX rY HO D2 HDL HL
        by_cases h3 : (j : Int) = 3
        · have q3 : ((j : Int) == 3) = true := by simp [h3]
          have HL3 : Hid (L = inB (sumB kx) (expS k kx)) := by show _ = _; rw [HL2.out, decide_eq_true h3]; rfl
          clear HL2 h3
          generalize sumB kx = sx at *
          go_region_held3 (fun w' => w'.cell? ⟨w.heap.size, 0, none⟩ = some (.int .i64 (j : Int)) ∧ w'.cell? ⟨g, 0, none⟩ = some (.int .i64 kx.op) ∧ w'.cell? ⟨g, 1, none⟩ = some (.string kx.t.x) ∧ w'.cell? ⟨g, 2, none⟩ = some (.int .i64 kx.t.v.k) ∧ w'.cell? ⟨g, 3, none⟩ = some (.int .i64 kx.t.v.n) ∧ w'.cell? ⟨g, 4, none⟩ = some (.string kx.t.v.s) ∧ w'.cell? ⟨g, 5, none⟩ = some (.slice A1 n1 a1))
            (first
          | (refine Hk.out _ ?_; (repeat (first | with_reducible exact Below.refl _ _ | with_reducible assumption | with_reducible refine Below.drew ?_ | with_reducible refine belowA ?_ _)); done)
          | go_keep)
            ((first
              | (go_at_call 117
                 refine (HS1.out _).mono ?_
                 rintro r wN ⟨rfl, hq1⟩
                 have hb1 : Below W2.heap.size W2 wN := by
                   refine below_next ?_ hq1
                   repeat (first | with_reducible exact Below.refl _ _ | with_reducible assumption | with_reducible refine Below.drew ?_ | with_reducible refine belowA ?_ _)
                 clear hq1)
              | (go_at_call 116
                 refine (D1.out _ (by repeat (first | with_reducible exact Below.refl _ _ | with_reducible assumption | with_reducible refine Below.drew ?_ | with_reducible refine belowA ?_ _)) _).mono ?_
                 rintro r wN ⟨rfl, hq1⟩
                 have hb1 : Below W2.heap.size W2 wN := by
                   refine below_next ?_ hq1
                   repeat (first | with_reducible exact Below.refl _ _ | with_reducible assumption | with_reducible refine Below.drew ?_ | with_reducible refine belowA ?_ _)
                 clear hq1)))
          go_wp2_with fail
          go_meet
          exact ⟨by rw [HL3.out], hb1⟩
        · have q3 : ((j : Int) == 3) = false := by simp [h3]
          have HL3 : Hid (L = inB false (expS k kx)) := by show _ = _; rw [HL2.out, decide_eq_false h3]; rfl
          clear HL2 h3
          first
          | (go_region_with ((first
               | (go_at_call 117
                  refine (HS1.out _).mono ?_
                  rintro r wN ⟨rfl, hq1⟩
                  have hb1 : Below W2.heap.size W2 wN := below_next (Below.drew (Below.refl _ _)) hq1
                  have k9 := Hk.out _ hb1
                  obtain ⟨n9, n0, n1, n2, n3, n4, n5⟩ := k9
                  clear hq1)
               | (go_at_call 116
                  refine (D1.out _ (by repeat (first | with_reducible assumption | with_reducible refine Below.drew ?_)) _).mono ?_
                  rintro r wM ⟨rfl, hq2⟩
                  have hb2 : Below W2.heap.size W2 wM := by
                    refine below_next ?_ hq2
                    repeat (first | with_reducible assumption | with_reducible refine Below.drew ?_)
                  clear hq2))))
          | fail
          all_goals
            go_wp2_with fail
            go_meet
            exact ⟨by rw [HL3.out], by assumption⟩
      case rest =>
        obtain ⟨rfl, hb5⟩ := hcut
        have HB5 := Lib.hid (below_next HBW.out hb5)
        have rYc := Lib.hid ((hb5.block _ (Array.getElem?_eq_some_iff.1 rY.out).1).trans rY.out)
        have HOc := Lib.hid ((hb5.block _ (Array.getElem?_eq_some_iff.1 HO.out).1).trans HO.out)
        have D3 := Lib.hid (fun (V : World) (hb : Below wc.heap.size wc V) (b : Bool) => D2.out V (below_next hb5 hb) b)
        clear D1 D2 rX rY HO HBW hb5 HL HDL
        go_wp2_with fail
        go_cut [6] (fun v W => v = .string (bytes R) ∧ Below wc.heap.size wc W)
        case first =>
          have HR2 := Lib.hid HR.out
          have k0 := (cell_of_row _ _ 0 _ _ _ HOc.out).trans rfl
          have k1 := facts6 rYc.out
          have Hk := Lib.hid (fun (V : World) (hb : Below wc.heap.size wc V) => And.intro (below_cell hb k0) (And.intro (below_cell hb k1.1) (And.intro (below_cell hb k1.2.1) (And.intro (below_cell hb k1.2.2.1) (And.intro (below_cell hb k1.2.2.2.1) (And.intro (below_cell hb k1.2.2.2.2.1) (below_cell hb k1.2.2.2.2.2)))))))
          obtain ⟨m0, m1, m2, m3, m4, m5⟩ := k1
          have hb1 := Below.refl wc.heap.size wc
          have HS1 := Lib.hid (fun V => sum_any ky A2 n2 a2 V)
          clear HR HSS HLL HW rYc HOc
          cases hsy : sumB ky with
          | true =>
            have HL3 : Hid (R = inB true (expS k ky)) := by show _ = _; rw [HR2.out, hsy]; rfl
            rw [hsy] at HS1
            clear HR2 hsy
            have hyu : undef = Value.tuple #[] := rfl
            first
            | (go_region_with ((first
                 | (go_at_call 117
                    refine (HS1.out _).mono ?_
                    rintro r wN ⟨rfl, hq1⟩
                    have hb1 : Below wc.heap.size wc wN := below_next (Below.drew (Below.refl _ _)) hq1
                    have k9 := Hk.out _ hb1
                    obtain ⟨n9, n0, n1, n2, n3, n4, n5⟩ := k9
                    clear hq1)
                 | (go_at_call 116
                    refine (D3.out _ (by repeat (first | with_reducible assumption | with_reducible refine Below.drew ?_)) _).mono ?_
                    rintro r wM ⟨rfl, hq2⟩
                    have hb2 : Below wc.heap.size wc wM := by
                      refine below_next ?_ hq2
                      repeat (first | with_reducible assumption | with_reducible refine Below.drew ?_)
                    clear hq2))))
            | fail
            all_goals
              go_wp2_with fail
              go_meet
              exact ⟨by rw [HL3.out], by assumption⟩
          | false =>
            rw [hsy] at HS1
            by_cases h3 : (j : Int) = 3
            · have q3 : ((j : Int) == 3) = true := by simp [h3]
              by_cases h4 : ky.op = 3
              · have q4 : (ky.op == 3) = true := by simp [h4]
                have HL3 : Hid (R = inB true (expS k ky)) := by show _ = _; rw [HR2.out, hsy, decide_eq_true h3, decide_eq_true h4]; rfl
                clear HR2 hsy h3 h4
                first
                | (go_region_with ((first
                     | (go_at_call 117
                        refine (HS1.out _).mono ?_
                        rintro r wN ⟨rfl, hq1⟩
                        have hb1 : Below wc.heap.size wc wN := below_next (Below.drew (Below.refl _ _)) hq1
                        have k9 := Hk.out _ hb1
                        obtain ⟨n9, n0, n1, n2, n3, n4, n5⟩ := k9
                        clear hq1)
                     | (go_at_call 116
                        refine (D3.out _ (by repeat (first | with_reducible assumption | with_reducible refine Below.drew ?_)) _).mono ?_
                        rintro r wM ⟨rfl, hq2⟩
                        have hb2 : Below wc.heap.size wc wM := by
                          refine below_next ?_ hq2
                          repeat (first | with_reducible assumption | with_reducible refine Below.drew ?_)
                        clear hq2))))
                | fail
                all_goals
                  go_wp2_with fail
                  go_meet
                  exact ⟨by rw [HL3.out], by assumption⟩
              · have q4 : (ky.op == 3) = false := by simp [h4]
                have HL3 : Hid (R = inB false (expS k ky)) := by show _ = _; rw [HR2.out, hsy, decide_eq_true h3, decide_eq_false h4]; rfl
                clear HR2 hsy h3 h4
                first
                | (go_region_with ((first
                     | (go_at_call 117
                        refine (HS1.out _).mono ?_
                        rintro r wN ⟨rfl, hq1⟩
                        have hb1 : Below wc.heap.size wc wN := below_next (Below.drew (Below.refl _ _)) hq1
                        have k9 := Hk.out _ hb1
                        obtain ⟨n9, n0, n1, n2, n3, n4, n5⟩ := k9
                        clear hq1)
                     | (go_at_call 116
                        refine (D3.out _ (by repeat (first | with_reducible assumption | with_reducible refine Below.drew ?_)) _).mono ?_
                        rintro r wM ⟨rfl, hq2⟩
                        have hb2 : Below wc.heap.size wc wM := by
                          refine below_next ?_ hq2
                          repeat (first | with_reducible assumption | with_reducible refine Below.drew ?_)
                        clear hq2))))
                | fail
                all_goals
                  go_wp2_with fail
                  go_meet
                  exact ⟨by rw [HL3.out], by assumption⟩
            · have q3 : ((j : Int) == 3) = false := by simp [h3]
              have HL3 : Hid (R = inB false (expS k ky)) := by show _ = _; rw [HR2.out, hsy, decide_eq_false h3]; rfl
              clear HR2 hsy h3
              first
              | (go_region_with ((first
                   | (go_at_call 117
                      refine (HS1.out _).mono ?_
                      rintro r wN ⟨rfl, hq1⟩
                      have hb1 : Below wc.heap.size wc wN := below_next (Below.drew (Below.refl _ _)) hq1
                      have k9 := Hk.out _ hb1
                      obtain ⟨n9, n0, n1, n2, n3, n4, n5⟩ := k9
                      clear hq1)
                   | (go_at_call 116
                      refine (D3.out _ (by repeat (first | with_reducible assumption | with_reducible refine Below.drew ?_)) _).mono ?_
                      rintro r wM ⟨rfl, hq2⟩
                      have hb2 : Below wc.heap.size wc wM := by
                        refine below_next ?_ hq2
                        repeat (first | with_reducible assumption | with_reducible refine Below.drew ?_)
                      clear hq2))))
              | fail
              all_goals
                go_wp2_with fail
                go_meet
                exact ⟨by rw [HL3.out], by assumption⟩
        case rest =>
          obtain ⟨rfl, hb6⟩ := hcut
          have HB6 := Lib.hid (below_next HB5.out hb6)
          have HO2 := (hb6.block _ (Array.getElem?_eq_some_iff.1 HOc.out).1).trans HOc.out
          have k0 := (cell_of_row _ _ 0 _ _ _ HO2).trans rfl
          have kO := (HW.out.on HB6.out).ops
          obtain ⟨hl1, hl2⟩ := HLL.out
          have e1 : (bytes L).size = L.length := rfl
          have e2 : (bytes R).size = R.length := rfl
          obtain ⟨hj1, hj3⟩ := HJ.out
          have i0 : (0 : Int) ≤ (j : Int) := by omega
          have i1 : (j : Int) < 4 := by omega
          obtain ⟨P, hP, hPl⟩ : ∃ P : List UInt8, opsL[j]? = some P ∧ P = opS (j : Int) := by
            have : j = 1 ∨ j = 2 ∨ j = 3 := by omega
            rcases this with rfl | rfl | rfl <;> exact ⟨_, rfl, rfl⟩
          have hp1 : P.length ≤ 1 := by rw [hPl]; exact Nat.le_of_eq (opS_len _)
          have kO2 := kO.cell hP
          have e3 : (bytes P).size = P.length := rfl
          have HSE : Hid (bytes S = bytes L ++ ⟨#[32]⟩ ++ bytes P ++ ⟨#[32]⟩ ++ bytes R) := by
            show _ = bytes L ++ bytes [32] ++ bytes P ++ bytes [32] ++ bytes R
            rw [HSS.out, bytes_app, bytes_app, bytes_app, bytes_app, hPl]
          generalize bytes L = sl at *
          generalize bytes R = sr at *
          generalize bytes P = sp at *
          have z1 : ¬ (9223372036854775807 < sl.size + 1) := by omega
          have z2 : ¬ (9223372036854775807 < sl.size + 1 + sp.size) := by omega
          have z3 : ¬ (9223372036854775807 < sl.size + 1 + sp.size + 1) := by omega
          have z4 : ¬ (9223372036854775807 < sl.size + 1 + sp.size + 1 + sr.size) := by omega
          clear HSS HLL hl1 hl2 e1 e2 e3 hp1 hPl hP kO HO2 HOc rYc HB5 hb6 HR HW D3
          go_wp2_with fail
          go_ret
          exact ⟨by rw [HSE.out]; rfl, below_next Hba.out HB6.out⟩
end Go.Proofs.YtplekbpmfaghbaaGreatDoor
