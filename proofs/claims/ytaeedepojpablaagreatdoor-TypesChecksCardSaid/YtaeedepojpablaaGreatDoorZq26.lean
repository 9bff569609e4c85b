/- My own texts TySd, TySc, TyFi, TTerms, TyNu, as far as this claim needs them. -/
import Derived.Test.YtaeedepojpablaaGreatDoorZq24
import Derived.Test.YtaeedepojpablaaGreatDoorZq25
set_option linter.unusedVariables false
set_option linter.unusedSimpArgs false
set_option maxRecDepth 1000000
set_option maxHeartbeats 16000000
namespace Go.Proofs.YtaeedepojpablaaGreatDoor
open Go.RowKit
def kindOf (kvs : List (ByteArray × Value)) (x : ByteArray) : Value := (kvGet kvs x).getD (.int .i64 0)
theorem side_any (g km : Nat) (cs : List Value) (mo : Bool) (kvs : List (ByteArray × Value)) (op : Int) (x : ByteArray) (vk vn : Int) (vs : ByteArray) (A : Option Addr) (n c : Nat) (w : World) (h : ScopeAt w g km cs mo) (hm : MapIs w km kvs) :
 Calls Tryz.prog 101 #[.pointer (some ⟨g, 0, none⟩), .agg #[.int .i64 op, .string x, .int .i64 vk, .int .i64 vn, .string vs, .slice A n c]] w (fun e w' => e = .returned (if op ≠ 0 then .int .i64 1 else if x.toList.isEmpty = false then kindOf kvs x else .int .i64 vk) ∧ Below w.heap.size w w') := by
 have hyu : undef = Value.tuple #[] := rfl; have mixed : Tryz.prog.follows .mixedOrders = true := by kernel_rfl
 have hr : (w.alloc (.cells #[.int .i64 op, .string x, .int .i64 vk, .int .i64 vn, .string vs, .slice A n c] 78)).heap[w.heap.size]? = some (.cells #[.int .i64 op, .string x, .int .i64 vk, .int .i64 vn, .string vs, .slice A n c] 78 (0, 0)) := heapNew rfl; have hb : Below w.heap.size w (w.alloc (.cells #[.int .i64 op, .string x, .int .i64 vk, .int .i64 vn, .string vs, .slice A n c] 78)) := belowA (Below.refl _ _) _; have hs : ScopeAt (w.alloc (.cells #[.int .i64 op, .string x, .int .i64 vk, .int .i64 vn, .string vs, .slice A n c] 78)) g km cs mo := ⟨h.1, heapOld h.2⟩
 have c8 := hs.map; have hlk := (hm.alloc (.cells #[.int .i64 op, .string x, .int .i64 vk, .int .i64 vn, .string vs, .slice A n c] 78)).lookup (P := Tryz.prog) Tryz.underlying67 Tryz.underlying9 (z := .int .i64 0) (zero_kind _) x; have hmV := hm.alloc (.cells #[.int .i64 op, .string x, .int .i64 vk, .int .i64 vn, .string vs, .slice A n c] 78); have HB := hZ9 hb; have c0 : (w.alloc (.cells #[.int .i64 op, .string x, .int .i64 vk, .int .i64 vn, .string vs, .slice A n c] 78)).cell? ⟨w.heap.size, 0, none⟩ = some (.int .i64 op) := (cell_of_row _ _ 0 _ _ _ hr).trans rfl; have c1 : (w.alloc (.cells #[.int .i64 op, .string x, .int .i64 vk, .int .i64 vn, .string vs, .slice A n c] 78)).cell? ⟨w.heap.size, 1, none⟩ = some (.string x) := (cell_of_row _ _ 1 _ _ _ hr).trans rfl; have c2 : (w.alloc (.cells #[.int .i64 op, .string x, .int .i64 vk, .int .i64 vn, .string vs, .slice A n c] 78)).cell? ⟨w.heap.size, 2, none⟩ = some (.int .i64 vk) := (cell_of_row _ _ 2 _ _ _ hr).trans rfl; clear h hm hr hb hs; by_cases h0 : op = 0
 ·subst h0; rw [if_neg (by simp)]; cases h1 : x.toList.isEmpty with
  | true =>
    clear hlk hmV; go_enter Tryz.func101, Tryz.ntmps101
    go_wp2_with fail
    go_ret; exact ⟨by simp, HB.out⟩
  | false =>
    rw [if_pos rfl]; go_enter Tryz.func101, Tryz.ntmps101
    go_upto_region 1 with fail
    generalize w.alloc (.cells #[.int .i64 0, .string x, .int .i64 vk, .int .i64 vn, .string vs, .slice A n c] 78) = V at *; have HBd : Hid (Below w.heap.size w V.drew) := HB.out.drew; have hlk2 : (Instr.lookup 67 (.map (some km)) (.string x) false).run Tryz.prog V.drew = .ok (kindOf kvs x) V.drew := hmV.drew.lookup Tryz.underlying67 Tryz.underlying9 (z := .int .i64 0) (zero_kind _) x; clear hlk hmV; go_wp2_with fail
    refine drawnS mixed _ (fun W => W = V.drew) rfl (by kernel_rfl) rfl rfl ?_
    iterate 9
     apply seqS_op
     ·rintro W rfl; go_wp2_with fail
      exact ⟨rfl, rfl, fun d hd => by cases hd; simp only [List.getElem?_toArray, List.getElem?_cons_succ, List.getElem?_cons_zero]; rfl, rfl⟩
     simp only [Act.put, List.setIfInBounds_toArray, List.set_cons_succ, List.set_cons_zero]
    apply seqS_end; rintro W rfl; go_wp2_with fail
    go_ret; exact ⟨rfl, HBd.out⟩
 ·have e0 : (op != 0) = true := by simpa using h0
  rw [if_pos h0]; clear hlk hmV; go_enter Tryz.func101, Tryz.ntmps101
  go_wp2_with fail
  go_ret; exact ⟨rfl, HB.out⟩
end Go.Proofs.YtaeedepojpablaaGreatDoor

namespace Go.Proofs.YtaeedepojpablaaGreatDoor
open Go.RowKit
def kvsOf (l : Kinds) : List (ByteArray × Value) := l.map (fun p => (p.1, Value.int .i64 p.2))
theorem kvsOf_get (l : Kinds) (x : ByteArray) : kvGet (kvsOf l) x = (kvGet l x).map (Value.int .i64) := by
 induction l with
 | nil => rfl
 | cons p l ih =>
   show kvGet ((p.1, Value.int .i64 p.2) :: kvsOf l) x = _; rw [kvGet_cons, kvGet_cons]; by_cases h : p.1 = x
   ·rw [if_pos h, if_pos h]; rfl
   ·rw [if_neg h, if_neg h]; exact ih
theorem kvsOf_kind (l : Kinds) (x : ByteArray) : kindOf (kvsOf l) x = .int .i64 (kget l x) := by
 unfold kindOf kget; rw [kvsOf_get]; cases kvGet l x <;> rfl
theorem isEmpty_size (x : ByteArray) : x.toList.isEmpty = decide (x.size = 0) := by
 by_cases h : x.size = 0
 ·rw [str_empty.2 h]; simp [h]
 ·have : x.toList ≠ [] := fun e => h (str_empty.1 e)
  cases hx : x.toList with
  | nil => exact absurd hx this
  | cons a l => simp [h]
theorem kvGet_of_kget {l : Kinds} (ho : KOk l) {x : ByteArray} : kvGet l x = none ↔ kget l x = 0 := by
 unfold kget; cases h : kvGet l x with
 | none => simp
 | some k =>
   have : k ≠ 0 := by
    unfold kvGet at h; obtain ⟨p, hp, rfl⟩ := Option.map_eq_some_iff.1 h; exact ho.pos p (List.mem_of_find?_eq_some hp)
   simp [this]
theorem tellK_no {l : Kinds} (ho : KOk l) {x : ByteArray} {k : Int} (h : tellK (kvsOf l) x k = false) : kput l x k = l := by
 unfold tellK at h; rw [isEmpty_size, kvsOf_get] at h; unfold kput; refine if_pos ?_; by_cases h1 : x.size = 0
 ·exact .inl h1
 by_cases h2 : k = 0
 ·exact .inr (.inl h2)
 refine .inr (.inr fun h3 => ?_); rw [(kvGet_of_kget ho).2 h3] at h; simp [h1, h2] at h
theorem tellK_yes {l : Kinds} (ho : KOk l) {x : ByteArray} {k : Int} (h : tellK (kvsOf l) x k = true) : kput l x k = l ++ [(x, k)] ∧ kvSet (kvsOf l) x (.int .i64 k) = kvsOf (l ++ [(x, k)]) := by
 unfold tellK at h; rw [isEmpty_size, kvsOf_get] at h; simp only [Bool.and_eq_true, Bool.not_eq_true', decide_eq_false_iff_not, bne_iff_ne, ne_eq, Option.isNone_iff_eq_none, Option.map_eq_none_iff] at h; obtain ⟨⟨h1, h2⟩, h3⟩ := h; refine ⟨if_neg ?_, ?_⟩
 ·rintro (e | e | e)
  ·exact h1 e
  ·exact h3 e
  ·exact e ((kvGet_of_kget ho).1 h2)
 ·rw [kvSet_none]
  ·unfold kvsOf; simp
  ·have : kvGet (kvsOf l) x = none := by rw [kvsOf_get, h2]; rfl
   unfold kvGet at this; rw [Option.map_eq_none_iff, List.find?_eq_none] at this; rw [List.findIdx?_eq_none_iff]; intro y hy; simpa using this y hy
structure Scp (w0 w : World) (g km : Nat) (cs : List Value) (l0 l : Kinds) : Prop where
 b0 : Below w0.heap.size w0 w
 at_ : ScopeAt w g km cs (decide (l0.length < l.length))
 map : MapIs w km (kvsOf l)
 ok : KOk l
 lo : l0.length ≤ l.length
 gl : w0.heap.size ≤ g
 kl : w0.heap.size ≤ km
theorem Scp.gb {w0 w : World} {g km : Nat} {cs : List Value} {l0 l : Kinds} (h : Scp w0 w g km cs l0 l) : g < w.heap.size := (glt h.at_.2)
theorem Scp.kb {w0 w : World} {g km : Nat} {cs : List Value} {l0 l : Kinds} (h : Scp w0 w g km cs l0 l) : km < w.heap.size := h.map.lt
theorem Scp.on {w0 w w' : World} {g km : Nat} {cs : List Value} {l0 l : Kinds} (h : Scp w0 w g km cs l0 l) (hb : Below w.heap.size w w') : Scp w0 w' g km cs l0 l :=
 ⟨h.b0.trans (hb.mono h.b0.size), ⟨h.at_.1, (hb.block _ h.gb).trans h.at_.2⟩, h.map.below hb h.kb, h.ok, h.lo, h.gl, h.kl⟩
theorem Scp.cell {w0 w : World} {g km : Nat} {cs : List Value} {l0 l : Kinds} (h : Scp w0 w g km cs l0 l) {i : Nat} {v : Value} (hv : cs[i]? = some v) : w.cell? ⟨g, i, none⟩ = some v := by
 have hi := (List.getElem?_eq_some_iff.1 hv).1; rw [cell_of_row _ _ _ _ _ _ h.at_.2]; simp [List.getElem?_append_left hi, hv]
theorem Scp.soft {w0 w w' : World} {B g km : Nat} {cs : List Value} {l0 l : Kinds} (h : Scp w0 w g km cs l0 l) (hs : Soft B w w') (h0 : w0.heap.size ≤ B) (hk : km < B) : Scp w0 w' g km cs l0 l :=
 ⟨h.b0.trans (hs.below h0 h.b0.size), ⟨h.at_.1, hs.row h.at_.2⟩, by
  obtain ⟨es, cl, hb, hr⟩ := h.map.ex
  exact ⟨⟨es, cl, hs.same _ _ hb (.inl hk), hr⟩, h.map.keys⟩, h.ok, h.lo, h.gl, h.kl⟩
def TellPost (w0 : World) (g km : Nat) (cs : List Value) (l0 l' : Kinds) (w : World) (e : Ending) (w' : World) : Prop := e = .returned (.tuple #[]) ∧ Scp w0 w' g km cs l0 l' ∧ Out [g, km] w w'
theorem Out.below_in {g km : Nat} {w w' w0 : World} (h : Out [g, km] w w') (hg : w0.heap.size ≤ g) (hk : w0.heap.size ≤ km) (hb : Below w0.heap.size w0 w) : Below w0.heap.size w0 w' :=
 hb.trans (h.below (fun b hb => by simp at hb; omega) hb.size)
theorem tell_any (w0 : World) (g km : Nat) (cs : List Value) (l0 l : Kinds) (x : ByteArray) (k : Int) (w : World) (h : Scp w0 w g km cs l0 l) :
 Calls Tryz.prog 99 #[.pointer (some ⟨g, 0, none⟩), .string x, .int .i64 k] w (TellPost w0 g km cs l0 (kput l x k) w) := by
 cases hn : tellK (kvsOf l) x k with
 | false =>
   refine (tellNo_any g km cs _ (kvsOf l) x k w h.at_ h.map hn).mono ?_; rintro e w' ⟨rfl, rfl⟩; rw [tellK_no h.ok hn]; exact ⟨rfl, h, Out.refl _ _⟩
 | true =>
   refine (tellYes_any g km cs _ (kvsOf l) x k w h.at_ h.map hn).mono ?_; rintro e w' ⟨rfl, h1, h2, h3⟩; obtain ⟨e1, e2⟩ := tellK_yes h.ok hn; have hlt : l0.length < (l ++ [(x, k)]).length := by have := h.lo; simp; omega
   have hok := h.ok.put x k; rw [e1] at hok ⊢; rw [e2] at h2; exact ⟨rfl, ⟨h3.below_in h.gl h.kl h.b0, by rw [decide_eq_true hlt]; exact h1, h2, hok, by omega, h.gl, h.kl⟩, h3⟩
theorem sideK_any (w0 : World) (g km : Nat) (cs : List Value) (l0 l : Kinds) (e : GExp) (A : Option Addr) (n c : Nat) (w : World) (h : Scp w0 w g km cs l0 l) :
 Calls Tryz.prog 101 #[.pointer (some ⟨g, 0, none⟩), .agg #[.int .i64 e.op, .string e.t.x, .int .i64 e.t.v.k, .int .i64 e.t.v.n, .string e.t.v.s, .slice A n c]] w (fun r w' => r = .returned (.int .i64 (sideK l e)) ∧ Below w.heap.size w w') := by
 refine (side_any g km cs _ (kvsOf l) e.op e.t.x e.t.v.k e.t.v.n e.t.v.s A n c w h.at_ h.map).mono ?_; rintro r w' ⟨rfl, hb⟩; refine ⟨?_, hb⟩; unfold sideK; rw [isEmpty_size, kvsOf_kind]; by_cases h0 : e.op = 0
 ·have a1 : ¬ e.op ≠ 0 := by simp [h0]
  simp only [if_neg a1]; by_cases h1 : e.t.x.size = 0
  ·have a2 : ¬ e.t.x.size ≠ 0 := by omega
   have a3 : ¬ decide (e.t.x.size = 0) = false := by rw [decide_eq_true h1]; decide
   simp only [if_neg a2, if_neg a3]
  ·have a3 : decide (e.t.x.size = 0) = false := decide_eq_false h1; simp only [if_pos h1, if_pos a3, ne_eq]
 ·simp only [if_pos h0, ne_eq]
end Go.Proofs.YtaeedepojpablaaGreatDoor

namespace Go.Proofs.YtaeedepojpablaaGreatDoor
open Go.RowKit
def FitsPost (B : Bool) (w : World) (e : Ending) (w' : World) : Prop := e = .returned (.bool B) ∧ Below w.heap.size w w'
theorem own3 (o k : Int) : (o = 0 ∧ (decide (o = 0) || decide (o = k)) = true) ∨ (o ≠ 0 ∧ o = k ∧ (decide (o = 0) || decide (o = k)) = true) ∨ (o ≠ 0 ∧ o ≠ k ∧ (decide (o = 0) || decide (o = k)) = false) := by
 by_cases h0 : o = 0
 ·exact .inl ⟨h0, by simp [h0]⟩
 ·by_cases h1 : o = k
  ·exact .inr (.inl ⟨h0, h1, by simp [h1]⟩)
  ·exact .inr (.inr ⟨h0, h1, by simp [h0, h1]⟩)
theorem fits_any (w0 : World) (g km : Nat) (cs : List Value) (l0 l : Kinds) (x : ByteArray) (vk vn : Int) (vs : ByteArray) (k : Int) (w : World) (h : Scp w0 w g km cs l0 l) :
 Calls Tryz.prog 103 #[.pointer (some ⟨g, 0, none⟩), .agg #[.string x, .int .i64 vk, .int .i64 vn, .string vs], .int .i64 k] w (FitsPost (fitsK l ⟨x, ⟨vk, vn, vs⟩⟩ k) w) := by
 have hyu : undef = Value.tuple #[] := rfl; have mixed : Tryz.prog.follows .mixedOrders = true := by kernel_rfl
 obtain ⟨V, hV⟩ : ∃ V, V = w.alloc (.cells #[.string x, .int .i64 vk, .int .i64 vn, .string vs] 75) := ⟨_, rfl⟩
 have HVe := hZ9 hV.symm; have hr : V.heap[w.heap.size]? = some (.cells #[.string x, .int .i64 vk, .int .i64 vn, .string vs] 75 (0, 0)) := by rw [hV]; exact heapNew rfl
 have hb : Below w.heap.size w V := by rw [hV]; exact belowA (Below.refl _ _) _
 have hs := h.on hb; obtain ⟨c0, c1, c2, c3⟩ := facts4 hr; have HB := hZ9 hb; obtain ⟨B, HBo⟩ : ∃ B, Hid (fitsK l ⟨x, ⟨vk, vn, vs⟩⟩ k = B) := ⟨_, rfl⟩
 rw [HBo.out]; cases h1 : x.toList.isEmpty with
 | true =>
   have he : Hid ((decide (vk = 0) || decide (vk = k)) = B) := by
    show _ = _; rw [← HBo.out]; unfold fitsK; rw [isEmpty_size] at h1; have h1' : x.size = 0 := by simpa using h1
    dsimp only; rw [if_neg (by simp [h1'])]
   clear h hV hr hb hs HBo; rcases own3 vk k with ⟨q0, q1⟩ | ⟨q0, q1, q2⟩ | ⟨q0, q1, q2⟩
   ·have hB : B = true := by rw [← he.out]; exact q1
    subst hB; subst q0; clear he; go_enter Tryz.func103, Tryz.ntmps103
    go_wp2_with (rw [HVe.out])
    go_ret; exact ⟨rfl, HB.out⟩
   ·have hB : B = true := by rw [← he.out]; exact q2
    subst hB; subst q1; have e0 : (vk == 0) = false := by simpa using q0
    clear he; go_enter Tryz.func103, Tryz.ntmps103
    go_wp2_with (rw [HVe.out])
    go_ret; exact ⟨by simp, HB.out⟩
   ·have hB : B = false := by rw [← he.out]; exact q2
    subst hB; have e0 : (vk == 0) = false := by simpa using q0
    have e1 : (vk == k) = false := by simpa using q1
    clear he; go_enter Tryz.func103, Tryz.ntmps103
    go_wp2_with (rw [HVe.out])
    go_ret; exact ⟨rfl, HB.out⟩
 | false =>
   have hlk2 : (Instr.lookup 67 (.map (some km)) (.string x) false).run Tryz.prog V.drew = .ok (.int .i64 (kget l x)) V.drew := by
    rw [← kvsOf_kind]; exact hs.map.drew.lookup Tryz.underlying67 Tryz.underlying9 (z := .int .i64 0) (zero_kind _) x
   have c8 := hs.at_.map; have HBd : Hid (Below w.heap.size w V.drew) := HB.out.drew
   have he : Hid ((decide (kget l x = 0) || decide (kget l x = k)) = B) := by
    show _ = _; rw [← HBo.out]; unfold fitsK; rw [isEmpty_size] at h1; have h1' : ¬ x.size = 0 := by simpa using h1
    dsimp only; rw [if_pos h1']
   generalize kget l x = o at *; clear h hV hr hb hs HBo; rcases own3 o k with ⟨q0, q1⟩ | ⟨q0, q1, q2⟩ | ⟨q0, q1, q2⟩
   ·have hB : B = true := by rw [← he.out]; exact q1
    subst hB; subst q0; clear he; go_enter Tryz.func103, Tryz.ntmps103
    go_wp2_with (rw [HVe.out])
    refine drawnS mixed _ (fun W => W = V.drew) rfl (by kernel_rfl) rfl rfl ?_
    iterate 8
     apply seqS_op
     ·rintro W rfl; go_wp2_with fail
      exact ⟨rfl, rfl, fun d hd => by cases hd; simp only [List.getElem?_toArray, List.getElem?_cons_succ, List.getElem?_cons_zero]; rfl, rfl⟩
     simp only [Act.put, List.setIfInBounds_toArray, List.set_cons_succ, List.set_cons_zero]
    apply seqS_end; rintro W rfl; go_wp2_with fail
    go_ret; exact ⟨rfl, HBd.out⟩
   ·have hB : B = true := by rw [← he.out]; exact q2
    subst hB; subst q1; have e0 : (o == 0) = false := by simpa using q0
    clear he; go_enter Tryz.func103, Tryz.ntmps103
    go_wp2_with (rw [HVe.out])
    refine drawnS mixed _ (fun W => W = V.drew) rfl (by kernel_rfl) rfl rfl ?_
    iterate 8
     apply seqS_op
     ·rintro W rfl; go_wp2_with fail
      exact ⟨rfl, rfl, fun d hd => by cases hd; simp only [List.getElem?_toArray, List.getElem?_cons_succ, List.getElem?_cons_zero]; rfl, rfl⟩
     simp only [Act.put, List.setIfInBounds_toArray, List.set_cons_succ, List.set_cons_zero]
    apply seqS_end; rintro W rfl; go_wp2_with fail
    go_ret; exact ⟨by simp, HBd.out⟩
   ·have hB : B = false := by rw [← he.out]; exact q2
    subst hB; have e0 : (o == 0) = false := by simpa using q0
    have e1 : (o == k) = false := by simpa using q1
    clear he; go_enter Tryz.func103, Tryz.ntmps103
    go_wp2_with (rw [HVe.out])
    refine drawnS mixed _ (fun W => W = V.drew) rfl (by kernel_rfl) rfl rfl ?_
    iterate 8
     apply seqS_op
     ·rintro W rfl; go_wp2_with fail
      exact ⟨rfl, rfl, fun d hd => by cases hd; simp only [List.getElem?_toArray, List.getElem?_cons_succ, List.getElem?_cons_zero]; rfl, rfl⟩
     simp only [Act.put, List.setIfInBounds_toArray, List.set_cons_succ, List.set_cons_zero]
    apply seqS_end; rintro W rfl; go_wp2_with fail
    go_ret; exact ⟨rfl, HBd.out⟩
def aggFit (l : Kinds) (agg : Int) (t : GTold) (k : Int) : Bool := if agg = 1 then decide (k = 1) else if agg = 2 then decide (k = 1) && fitsK l t 1 else fitsK l t k
theorem aggregated_any (w0 : World) (g km : Nat) (cs : List Value) (l0 l : Kinds) (agg : Int) (hag : cs[4]? = some (.int .i64 agg)) (x : ByteArray) (vk vn : Int) (vs : ByteArray) (k : Int) (w : World) (h : Scp w0 w g km cs l0 l) :
 Calls Tryz.prog 102 #[.pointer (some ⟨g, 0, none⟩), .agg #[.string x, .int .i64 vk, .int .i64 vn, .string vs], .int .i64 k] w (FitsPost (aggFit l agg ⟨x, ⟨vk, vn, vs⟩⟩ k) w) := by
 have hyu : undef = Value.tuple #[] := rfl; obtain ⟨V, hV⟩ : ∃ V, V = w.alloc (.cells #[.string x, .int .i64 vk, .int .i64 vn, .string vs] 75) := ⟨_, rfl⟩
 have HVe := hZ9 hV.symm; have hr : V.heap[w.heap.size]? = some (.cells #[.string x, .int .i64 vk, .int .i64 vn, .string vs] 75 (0, 0)) := by rw [hV]; exact heapNew rfl
 have hb : Below w.heap.size w V := by rw [hV]; exact belowA (Below.refl _ _) _
 have hs := h.on hb; obtain ⟨c0, c1, c2, c3⟩ := facts4 hr; have c4 := hs.cell hag; have HB := hZ9 hb; have HF := hZ9 (fun kk => fits_any w0 g km cs l0 l x vk vn vs kk V hs); clear h hV hr hb hs hag; by_cases h1 : agg = 1
 ·have hE : Hid (aggFit l agg ⟨x, ⟨vk, vn, vs⟩⟩ k = decide (k = 1)) := if_pos h1; rw [hE.out]; subst h1; clear hE HF; go_enter Tryz.func102, Tryz.ntmps102
  go_wp2_with (rw [HVe.out])
  go_ret; exact ⟨by congr 2, HB.out⟩
 ·have e1 : (agg == 1) = false := by simpa using h1
  by_cases h2 : agg = 2
  ·have hE : Hid (aggFit l agg ⟨x, ⟨vk, vn, vs⟩⟩ k = (decide (k = 1) && fitsK l ⟨x, ⟨vk, vn, vs⟩⟩ 1)) := (if_neg h1).trans (if_pos h2); rw [hE.out]; have HF1 := hZ9 (HF.out 1); obtain ⟨B, HBe⟩ : ∃ B, Hid (fitsK l ⟨x, ⟨vk, vn, vs⟩⟩ 1 = B) := ⟨_, rfl⟩
   rw [HBe.out] at HF1 ⊢; subst h2; clear hE HF HBe; by_cases h3 : k = 1
   ·subst h3; go_enter Tryz.func102, Tryz.ntmps102
    go_wp2_with (rw [HVe.out])
    refine HF1.out.mono ?_; rintro e w1 ⟨rfl, hb1⟩; have HE : Hid (Below w.heap.size w w1) := HB.out.trans (hb1.mono HB.out.size); clear hb1; go_wp2_with fail
    go_ret; exact ⟨by simp, HE.out⟩
   ·have e3 : (k == 1) = false := by simpa using h3
    have hE2 : Hid ((decide (k = 1) && B) = false) := by show _ = _; simp [h3]
    rw [hE2.out]; clear hE2; go_enter Tryz.func102, Tryz.ntmps102
    go_wp2_with (rw [HVe.out])
    go_ret; exact ⟨rfl, HB.out⟩
  ·have e2 : (agg == 2) = false := by simpa using h2
   have hE : Hid (aggFit l agg ⟨x, ⟨vk, vn, vs⟩⟩ k = fitsK l ⟨x, ⟨vk, vn, vs⟩⟩ k) := (if_neg h1).trans (if_neg h2); rw [hE.out]; have HF1 := hZ9 (HF.out k); obtain ⟨B, HBe⟩ : ∃ B, Hid (fitsK l ⟨x, ⟨vk, vn, vs⟩⟩ k = B) := ⟨_, rfl⟩
   rw [HBe.out] at HF1 ⊢; clear hE HF HBe; go_enter Tryz.func102, Tryz.ntmps102
   go_wp2_with (rw [HVe.out])
   refine HF1.out.mono ?_; rintro e w1 ⟨rfl, hb1⟩; have HE : Hid (Below w.heap.size w w1) := HB.out.trans (hb1.mono HB.out.size); clear hb1; go_wp2_with fail
   go_ret; exact ⟨rfl, HE.out⟩
end Go.Proofs.YtaeedepojpablaaGreatDoor

namespace Go.Proofs.YtaeedepojpablaaGreatDoor
open Go.RowKit Go.Shelf
attribute [local go_sem] Oper.semAt_some
def encT (t : GTold) : Array Value := #[.agg #[.string t.x, .int .i64 t.v.k, .int .i64 t.v.n, .string t.v.s]]
def RT (L : List GTold) (pre : List GTold) (x : GTold) (_base : Nat) (_W : World) : Prop := (pre ++ [x]) <+: L
def TermsPost (b0 N : Nat) (H : World) (J Jx : Nat → List GTold → World → Prop) (L end_ : List GTold) (r : Ending) (W' : World) : Prop :=
 (r = .returned (.bool true) ∧ J N end_ W' ∧ (∀ b, b < b0 → W'.heap[b]? = H.heap[b]?) ∧ N ≤ W'.heap.size) ∨ (∃ p, r = .returned (.bool false) ∧ Hid (p <+: L) ∧ Jx N p W')
theorem terms_go (w : World) (l N : Nat) (S : List Nat) (L : List GTold) (J Jx : Nat → List GTold → World → Prop) (hl : w.heap.size ≤ l) (hN : w.heap.size ≤ N) (hS : ∀ b ∈ S, w.heap.size ≤ b)
 (hJ : ∀ pre W1 W2, J N pre W1 → Below W1.heap.size W1 W2 → J N pre W2)
 (hY : ∀ m pre x W0 W1, J N pre W0 → Below W0.heap.size W0 W1 → (pre ++ [x]) <+: L → YieldAt Fence.wide m Tryz.prog l (encT x) W1 fun e W' =>
  (e = .returned (.bool true) ∧ J N (pre ++ [x]) W' ∧ W1.heap.size ≤ W'.heap.size ∧ (∀ b, b < N → b ∉ S → b ≠ l → W'.heap[b]? = W1.heap[b]?) ∧ ∀ b, W0.heap.size ≤ b → b < W1.heap.size → W'.heap[b]? = W1.heap[b]?) ∨ (e = .returned (.bool false) ∧ Jx N (pre ++ [x]) W')) :
 ∀ (d : Nat) (e : GExp) (A : Option Addr) (n c : Nat) (W : World) (pre : List GTold), SliceIs (Enc.exp d) w w.heap.size A n c e.kids → (∀ b, b < w.heap.size → W.heap[b]? = w.heap[b]?) → N ≤ W.heap.size → J N pre W → (pre ++ leavesE e) <+: L →
 Calls Tryz.prog 172 #[expV e A n c, .func (.yield l) #[] #[]] W (TermsPost w.heap.size N w J Jx L (pre ++ leavesE e)) := by
 intro d; induction d using Nat.strongRecOn with
 | ind d ih =>
   intro e A n c W pre hk hW hNW hj hpre; have IH := hZ9 ih; have HJ := hZ9 hJ; have HY := hZ9 hY; have hn := hk.bound; have HK := hZ9 hk; have Hlen := hZ9 hk.1; obtain ⟨P, HP⟩ : ∃ P : Ending → World → Prop, Hid (P = TermsPost w.heap.size N w J Jx L (pre ++ leavesE e)) := ⟨_, rfl⟩
   rw [← HP.out]; have hrb : (W.alloc (.cells #[.int .i64 e.op, .string e.t.x, .int .i64 e.t.v.k, .int .i64 e.t.v.n, .string e.t.v.s, .slice A n c] 78)).heap[W.heap.size]? = some (.cells #[.int .i64 e.op, .string e.t.x, .int .i64 e.t.v.k, .int .i64 e.t.v.n, .string e.t.v.s, .slice A n c] 78 (0, 0)) := heapNew rfl; obtain ⟨b0, b1, b2, b3, b4, b5⟩ := facts6 hrb; have hbA : Below W.heap.size W (W.alloc (.cells #[.int .i64 e.op, .string e.t.x, .int .i64 e.t.v.k, .int .i64 e.t.v.n, .string e.t.v.s, .slice A n c] 78)) := belowA (Below.refl _ _) _; have hszA : (W.alloc (.cells #[.int .i64 e.op, .string e.t.x, .int .i64 e.t.v.k, .int .i64 e.t.v.n, .string e.t.v.s, .slice A n c] 78)).heap.size = W.heap.size + 1 := by simp
   have HJ0 : Hid (J N pre (W.alloc (.cells #[.int .i64 e.op, .string e.t.x, .int .i64 e.t.v.k, .int .i64 e.t.v.n, .string e.t.v.s, .slice A n c] 78))) := hJ _ _ _ hj hbA; have HW0 : Hid (∀ b, b < w.heap.size → (W.alloc (.cells #[.int .i64 e.op, .string e.t.x, .int .i64 e.t.v.k, .int .i64 e.t.v.n, .string e.t.v.s, .slice A n c] 78)).heap[b]? = w.heap[b]?) := fun b hb => (hbA.block b (by omega)).trans (hW b hb)
   have Hold : Hid (∀ V V2 : World, (∀ b, b < w.heap.size → V.heap[b]? = w.heap[b]?) → Below V.heap.size V V2 → N ≤ V.heap.size → ∀ b, b < w.heap.size → V2.heap[b]? = w.heap[b]?) := fun V V2 h1 h2 h3 b hb => (h2.block b (by omega)).trans (h1 b hb)
   have Hpre := hZ9 hpre; clear ih hJ hY hk hj hW hpre hbA; refine (callsIn_wide (n := 0)).1 ?_; refine callsIn_of_wp Tryz.func172 rfl trivial ?_ rfl; simp only [Tryz.ntmps172, List.size_toArray, List.length_cons, List.length_nil, Nat.reduceAdd, Nat.reduceSub, Array.replicate_succ, Array.replicate_zero, List.push_toArray, List.append_toArray, List.nil_append, List.cons_append]; by_cases h0 : n = 0
   ·subst h0; have hL0 : leavesE e = [e.t] := leavesE_nil (List.eq_nil_of_length_eq_zero (by rw [Hlen.out])); have HYs := hZ9 (fun m => HY.out m pre e.t _ _ HJ0.out (Below.refl _ _) (by rw [← hL0]; exact Hpre.out)); obtain ⟨fn, tmps, assign, body, hy, hR⟩ := HYs.out 0; have HRR := hZ9 hR; simp only [encT] at hy; have HE : Hid (∀ W', J N (pre ++ [e.t]) W' → (∀ b, b < w.heap.size → W'.heap[b]? = w.heap[b]?) → N ≤ W'.heap.size → P (.returned (.bool true)) W') := fun W' h1 h2 h3 => by rw [HP.out, hL0]; exact .inl ⟨rfl, h1, h2, h3⟩
    have HE2 : Hid (∀ W', Jx N (pre ++ [e.t]) W' → P (.returned (.bool false)) W') := fun W' h1 => by rw [HP.out]; exact .inr ⟨_, rfl, by rw [← hL0]; exact Hpre.out, h1⟩
    clear hR HYs hL0; gi_wp2_with fail
    refine ⟨rfl, HRR.out.mono ?_⟩; rintro r W2 (⟨rfl, hj2, hz2, hbl, hfr⟩ | ⟨rfl, hj2⟩)
    ·have hPP := hZ9 (HE.out W2 hj2 (fun b hb => (hbl b (by omega) (fun hbS => by have := hS b hbS; omega) (by omega)).trans (HW0.out b hb)) (by omega)); clear hj2 hbl hfr hy; gi_wp2_with fail
     exact hPP.out
    ·have hPP := hZ9 (HE2.out W2 hj2); clear hj2 hy; gi_wp2_with fail
     exact hPP.out
   ·have hL1 : leavesE e = leavesL e.kids := leavesE_kids (by intro h; have := Hlen.out; rw [h] at this; simp at this; omega); have hn0 : ¬ (n : Int) = 0 := by omega
    have hq0 : ((n : Int) == 0) = false := by simpa using hn0
    have HE : Hid (∀ W', J N (pre ++ leavesL e.kids) W' → (∀ b, b < w.heap.size → W'.heap[b]? = w.heap[b]?) → N ≤ W'.heap.size → P (.returned (.bool true)) W') := fun W' h1 h2 h3 => by rw [HP.out, hL1]; exact .inl ⟨rfl, h1, h2, h3⟩
    have HE2 : Hid (∀ W' p, Jx N p W' → p <+: L → P (.returned (.bool false)) W') := fun W' p h1 h2 => by rw [HP.out]; exact .inr ⟨p, rfl, h2, h1⟩
    have HpL : Hid ((pre ++ leavesL e.kids) <+: L) := by show _ <+: _; rw [← hL1]; exact Hpre.out
    clear HP Hpre hL1; gi_wp2_with fail
    gi_loopw [4, 6, 18] (fun _ _ i wr => ∃ (j : Nat), j ≤ n ∧ i = .int .i64 j ∧ Hid (J N (pre ++ leavesL (e.kids.take j)) wr) ∧ Hid (∀ b, b < w.heap.size → wr.heap[b]? = w.heap[b]?) ∧ N ≤ wr.heap.size) (fun _ _ i _ => n - (intOf i).toNat)
    case atStart => exact ⟨0, by omega, rfl, by show J _ _ _; simpa [leavesL] using HJ0.out, HW0.out, by omega⟩
    case round =>
     obtain ⟨j, hj, rfl, HJj, HWj, hNj⟩ := hrel; have i0 : (0 : Int) ≤ (j : Int) := by omega
     by_cases hlt : j < n
     ·have i1 : (j : Int) < (n : Int) := by omega
      obtain ⟨b, o, k, A', n', c', d', rfl, hb, hk', hd, x0, x1, x2, x3, x4, x5, -, f1, f2, hkk⟩ := (HK.out.mono' (w' := wr) (B' := w.heap.size) (Nat.le_refl _) (Kept.of (fun b hb => HWj.out b hb))).exp_at hlt; have HT := hZ9 (leavesL_take hk'.out); have hkw : SliceIs (Enc.exp d') w w.heap.size A' n' c' k.kids := hkk.mono' (Nat.le_refl _) (Kept.of (fun b hb => (HWj.out b hb).symm)); have hbB : Below wr.heap.size wr (wr.alloc (.cells #[.int .i64 k.op, .string k.t.x, .int .i64 k.t.v.k, .int .i64 k.t.v.n, .string k.t.v.s, .slice A' n' c'] 78)) := belowA (Below.refl _ _) _
      have HC := hZ9 (IH.out d' (by omega) k A' n' c' (wr.alloc (.cells #[.int .i64 k.op, .string k.t.x, .int .i64 k.t.v.k, .int .i64 k.t.v.n, .string k.t.v.s, .slice A' n' c'] 78)) (pre ++ leavesL (e.kids.take j)) hkw (Hold.out _ _ HWj.out hbB hNj) (by simp; omega) (HJ.out _ _ _ HJj.out hbB)
       (by rw [List.append_assoc, ← HT.out]; refine List.IsPrefix.trans ?_ HpL.out; rw [leavesL_full e.kids (j + 1), ← List.append_assoc]; exact List.prefix_append _ _))
      rw [List.append_assoc, ← HT.out] at HC; clear HT hk' hd hkw hbB hkk HJj; gi_wp2_with fail
      refine ⟨trivial, rfl, (callsIn_wide.2 HC.out).mono ?_⟩; rintro r w2 (⟨rfl, hj2, hW2, hN2⟩ | ⟨p, rfl, hp, hx⟩)
      ·have HJ2 := hZ9 hj2; have HW2 := hZ9 hW2; clear hj2 hW2; gi_wp2_with fail
       go_roundw
       case rel =>
        exact ⟨j + 1, by omega, by go_num, HJ2, HW2, hN2⟩
       case measure => simp [intOf]; omega
      ·have hPP := hZ9 (HE2.out w2 p hx hp.out); clear hx hp; gi_wp2_with fail
       exact hPP.out
     ·have i1 : ¬ (j : Int) < (n : Int) := by omega
      have hPP := hZ9 (HE.out wr (by have := HJj.out; rw [List.take_of_length_le (by rw [Hlen.out]; omega)] at this; exact this) HWj.out hNj); clear HJj; gi_wp2_with fail
      exact hPP.out
theorem terms_seq {w : World} {d : Nat} {e : GExp} {A : Option Addr} {n c g : Nat}
 (hg : w.heap[g]? = some (.cells #[.int .i64 e.op, .string e.t.x, .int .i64 e.t.v.k, .int .i64 e.t.v.n, .string e.t.v.s, .slice A n c] 78 (0, 0))) (S : List Nat) (w0 : World) (h0 : w0.heap.size ≤ g) (hw0 : Below w0.heap.size w0 w) (hkk : SliceIs (Enc.exp d) w0 w0.heap.size A n c e.kids) (hS : ∀ b ∈ S, w0.heap.size ≤ b) :
 SeqR2 Tryz.prog 171 #[.pointer (some ⟨g, 0, none⟩)] encT (RT (leavesE e)) S (fun xs => Hid (xs = leavesE e)) (fun pre => Hid (pre <+: leavesE e)) w := by
 intro l J Jx W hbW hl hlW hJ h0' hY; have hgl : g < w.heap.size := (glt hg)
 have hgW := (hbW.block g hgl).trans hg; have hzW := hbW.size; have hz0 := hw0.size; have HG := hZ9 (terms_go w0 l W.heap.size S (leavesE e) J Jx (by omega) (by omega) hS (fun pre W1 W2 => hJ _ pre W1 W2) (fun m pre x W0 W1 h1 h2 h3 => hY m _ pre x W0 W1 h1 h2 h3) d e A n c W [] hkk (fun b hb => (hbW.block b (by omega)).trans (hw0.block b hb)) (Nat.le_refl _) (h0' _ _ (Below.refl _ _) (Nat.le_refl _) (Nat.le_refl _)) (by simp)); obtain ⟨b0, b1, b2, b3, b4, b5⟩ := facts6 hgW; clear hJ h0' hY hg hgW hbW; go_enter Tryz.func171, Tryz.ntmps171
 go_wp2_with fail
 refine HG.out.mono ?_; rintro r W2 (⟨rfl, hj, -, -⟩ | ⟨p, rfl, hp, hj⟩)
 ·have HJ2 := hZ9 hj; clear hj; go_wp2_with fail
  refine ⟨rfl, _, results_none (fn := Tryz.f171) rfl _ _ _, ?_⟩; exact ⟨⟨_, rfl⟩, .inl ⟨_, _, rfl, HJ2.out⟩⟩
 ·have HJ2 := hZ9 hj; clear hj; go_wp2_with fail
  refine ⟨rfl, _, results_none (fn := Tryz.f171) rfl _ _ _, ?_⟩; exact ⟨⟨_, rfl⟩, .inr ⟨_, p, hp, HJ2.out⟩⟩
def SeqPost (w : World) (e : GExp) (A : Option Addr) (n c : Nat) (r : Ending) (w' : World) : Prop :=
 r = .returned (.func (.func 171) #[] #[.pointer (some ⟨w.heap.size, 0, none⟩)]) ∧ w' = w.alloc (.cells #[.int .i64 e.op, .string e.t.x, .int .i64 e.t.v.k, .int .i64 e.t.v.n, .string e.t.v.s, .slice A n c] 78)
theorem termsF_any (w : World) (e : GExp) (A : Option Addr) (n c : Nat) : Calls Tryz.prog 139 #[expV e A n c] w (SeqPost w e A n c) := by
 go_enter Tryz.func139, Tryz.ntmps139
 go_wp2
 go_ret; exact ⟨rfl, rfl⟩
end Go.Proofs.YtaeedepojpablaaGreatDoor

namespace Go.Proofs.YtaeedepojpablaaGreatDoor
open Go.RowKit Go.Shelf
attribute [local go_sem] Oper.semAt_some
theorem out_soft {S : List Nat} {u V V' : World} {B : Nat} (h : Out S u V) (hs : Soft B V V') (hB : u.heap.size ≤ B) : Out S u V' :=
 ⟨hs.os.trans h.os, hs.tape.trans h.tape, hs.output.trans h.output, Nat.le_trans h.size hs.size, fun b hb hS => by
  have h1 := h.block b hb hS; rw [Array.getElem?_eq_getElem hb] at h1 ⊢
  exact hs.same b _ h1 (.inl (by omega))⟩
theorem encT_eqK (t : GTold) : encT t = #[.agg #[.string t.x, .int .i64 t.v.k, .int .i64 t.v.n, .string t.v.s]] := rfl
theorem numbersK_snoc (l : Kinds) (pre : List GTold) (t : GTold) : numbersK l (pre ++ [t]) = kput (numbersK l pre) t.x 1 := by
 unfold numbersK; rw [List.foldl_append]; rfl
theorem numbers_any (w0 : World) (g km : Nat) (cs : List Value) (l0 l : Kinds) (d : Nat) (e : GExp) (A : Option Addr) (n c : Nat) (w : World) (h : Scp w0 w g km cs l0 l) (hk : SliceIs (Enc.exp d) w0 w0.heap.size A n c e.kids) :
 Calls Tryz.prog 100 #[.pointer (some ⟨g, 0, none⟩), expV e A n c] w (TellPost w0 g km cs l0 (numbersK l (leavesE e)) w) := by
 obtain ⟨w1, hw1⟩ : ∃ w1, w1 = (w.alloc (.cells #[.pointer (some ⟨g, 0, none⟩)] 97)).alloc (.cells (expC e A n c).toArray 78) := ⟨_, rfl⟩
 have HVe := hZ9 hw1.symm; have hb1 : Below w.heap.size w w1 := by rw [hw1]; exact belowA (belowA (Below.refl _ _) _) _
 have hr0 : w1.heap[w.heap.size]? = some (.cells #[.pointer (some ⟨g, 0, none⟩)] 97 (0, 0)) := by rw [hw1]; exact heapOld (heapNew rfl)
 have hr1 : w1.heap[w.heap.size + 1]? = some (.cells (expC e A n c).toArray 78 (0, 0)) := by rw [hw1]; exact heapNew (by simp)
 have hz1 : w1.heap.size = w.heap.size + 2 := by rw [hw1]; simp
 obtain ⟨c0, c1, c2, c3, c4, c5⟩ := facts6 hr1; have hs1 := h.on hb1; have hgl := h.gb; have hkl := h.kb; have h0 := h.b0.size; have Hgl := h.gl; have Hkl := h.kl; have HZ1 := hZ9 hz1; have HS1 := hZ9 hs1; have HB1 := hZ9 hb1; have HK := hZ9 hk; obtain ⟨L, HL⟩ : ∃ L, Hid (leavesE e = L) := ⟨_, rfl⟩
 obtain ⟨P, HP⟩ : ∃ P : Ending → World → Prop, Hid (P = TellPost w0 g km cs l0 (numbersK l L) w) := ⟨_, rfl⟩
 rw [HL.out, ← HP.out]; clear h hw1 hb1 hr1 hz1 hs1 hk; refine (callsIn_wide (n := 8)).1 ?_; refine callsIn_of_wp_marks Tryz.func100 rfl trivial ?_ rfl; simp only [Tryz.ntmps100, List.size_toArray, List.length_cons, List.length_nil, Nat.reduceAdd, Nat.reduceSub, Array.replicate_succ, Array.replicate_zero, List.push_toArray, List.append_toArray, List.nil_append, List.cons_append]; refine wpIn_wide.2 ?_; go_wp2_with (rw [HVe.out])
 refine (termsF_any w1 e A n c).mono ?_; rintro r w7 ⟨rfl, hw7⟩; have hb7 : Below w1.heap.size w1 w7 := by rw [hw7]; exact belowA (Below.refl _ _) _
 have hg7 : w7.heap[w1.heap.size]? = some (.cells #[.int .i64 e.op, .string e.t.x, .int .i64 e.t.v.k, .int .i64 e.t.v.n, .string e.t.v.s, .slice A n c] 78 (0, 0)) := by rw [hw7]; exact heapNew rfl
 have hz7 : w7.heap.size = w1.heap.size + 1 := by rw [hw7]; simp
 have hs7 := HS1.out.on hb7; have t0 := (hb7.block _ (glt hr0)).trans hr0; have hz1 := HZ1.out; have hbw7 := below_next HB1.out hb7; have HQ := hZ9 (terms_seq hg7 [g, km] w0 (by omega) hs7.b0 HK.out (by intro b hb; simp at hb; omega)); rw [HL.out] at HQ; have hlt7 : w.heap.size < w7.heap.size := by omega
 have HZ7 := hZ9 hz7; have HS7 := hZ9 hs7; have hgl7 : g < w7.heap.size := by omega
 have hkl7 : km < w7.heap.size := by omega
 have h07 : w0.heap.size ≤ w7.heap.size := by omega
 clear hw7 hb7 hg7 hr0 hs7 hz7 hz1 c0 c1 c2 c3 c4 c5; go_wp2_with fail
 refine (wpIn_wide (n := 8)).1 (range_law2 (hg := rfl) (eg := enters_of Tryz.func171 (by kernel_rfl) rfl) (hseq := HQ.out) (hb0 := Below.refl _ _) ?hS (hps := fun _ => rfl)
  (I := fun N pre W => W.heap[w.heap.size]? = some (.cells #[.pointer (some ⟨g, 0, none⟩)] 97 (0, 0)) ∧ Hid (Scp w0 W g km cs l0 (numbersK l pre)) ∧ Hid (Out [g, km] w W))
  (Ix := fun cd N pre W => False)
  ?hI ?hIx ?h0 ?round ?done ?stop)
 case hS => intro b hb; simp at hb; omega
 case hI =>
  rintro N pre W W' ⟨h1, h2, h3⟩ hs'; exact ⟨hs'.row h1, h2.out.soft hs' h07 hkl7, out_soft h3.out hs' (by omega)⟩
 case hIx => exact fun _ _ _ _ _ h _ => h
 case h0 =>
  intro N W hs' _ _; exact ⟨hs'.row t0, HS7.out.soft hs' h07 hkl7, out_soft (Out.of_below hbw7 _) hs' (by omega)⟩
 case round =>
  rintro k N pre x W0 W1 K ⟨h1, h2, h3⟩ hs' hN hN2 hW01 hx hK; have HK' := hZ9 hK; have t0' := hs'.row h1; have HS' := hZ9 (h2.out.soft hs' h07 hkl7); have HO' := hZ9 (out_soft h3.out hs' (by omega)); have hW0l := (glt h1)
  have hzO := h3.out.size; clear hK hx h1 h2 h3 HQ t0 hs'; rw [encT_eqK]; gi_wp2
  refine HK'.out _ _ (belowA (Below.refl _ _) _) (fun W2 hs2 hz2 => ?_); clear HK'; have v0 := hs2.row (heapOld (o := .cells #[.string x.x, .int .i64 x.v.k, .int .i64 x.v.n, .string x.v.s] 75) t0'); have vb := hs2.row (heapNew (w := W1) (o := .cells #[.string x.x, .int .i64 x.v.k, .int .i64 x.v.n, .string x.v.s] 75) (g := W1.heap.size) rfl); obtain ⟨x0, x1, x2, x4⟩ := facts4 vb; have p0 : W2.cell? ⟨w.heap.size, 0, none⟩ = some (.pointer (some ⟨g, 0, none⟩)) := (cell_of_row _ _ 0 _ _ _ v0).trans rfl; have hbA : Below W1.heap.size W1 (W1.alloc (.cells #[.string x.x, .int .i64 x.v.k, .int .i64 x.v.n, .string x.v.s] 75)) := belowA (Below.refl _ _) _; have HS2 := hZ9 ((HS'.out.on hbA).soft hs2 h07 hkl7); have HO2 : Hid (Out [g, km] w W2) := out_soft (HO'.out.trans (Out.of_below hbA []) (by simp)) hs2 (by omega); have hzz : W1.heap.size < W2.heap.size := by rw [hz2]; simp
  have HT := hZ9 (tell_any w0 g km cs l0 (numbersK l pre) x.x 1 W2 HS2.out); clear hz2 hs2 vb t0' HS' HO' hbA; gi_wp2_with fail
  refine ⟨trivial, (fun h => by cases h), (CallsIn.inRound _ (callsIn_wide.2 HT.out)).mono ?_⟩; rintro r W3 ⟨rfl, hs3, ho3⟩; have v3 := (ho3.block w.heap.size (glt v0) (by simp; omega)).trans v0; have HE : Hid (Turn2 [g, km] N W0.heap.size W2 W3) := Turn2.of_out ho3 (by omega) (fun b hb hbl => ⟨.inl hb, by simp at hb; omega⟩)
  have HF : Hid (W3.heap[w.heap.size]? = some (.cells #[.pointer (some ⟨g, 0, none⟩)] 97 (0, 0)) ∧ Hid (Scp w0 W3 g km cs l0 (numbersK l (pre ++ [x]))) ∧ Hid (Out [g, km] w W3)) :=
   ⟨v3, by show Scp _ _ _ _ _ _ _; rw [numbersK_snoc]; exact hs3, HO2.out.trans ho3 (fun b hb _ => hb)⟩
  clear hs3 ho3 v3 v0 x0 x1 x2 x4 p0 HT HS2 HO2; gi_wp2_with fail
  exact ⟨HE.out, HF.out⟩
 case done =>
  rintro N xs W hxs ⟨h1, h2, h3⟩ hD; obtain rfl : xs = L := hxs.out; have hsf : Soft w7.heap.size W (W.putObj w7.heap.size (.deferred none)) := Soft.putObj _ (Nat.le_refl _) hD rfl
  have HE : Hid (P (.returned (.tuple #[])) (W.putObj w7.heap.size (.deferred none))) := by
   show P _ _; rw [HP.out]; exact ⟨rfl, h2.out.soft hsf h07 hkl7, out_soft h3.out hsf (by omega)⟩
  clear h1 h2 h3 HQ hsf hxs; refine ⟨by simp, .inl ⟨_, _, rfl, run_takeDeferred hD, ?_⟩⟩; exact ⟨.tuple #[], by simp [results, Tryz.results100, go_sem], HE.out⟩
 case stop => exact fun _ _ _ _ _ h _ => h.elim
end Go.Proofs.YtaeedepojpablaaGreatDoor
