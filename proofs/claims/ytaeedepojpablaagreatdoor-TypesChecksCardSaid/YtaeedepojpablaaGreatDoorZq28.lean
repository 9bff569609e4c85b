/- My own texts TyCm, TyCe, as far as this claim needs them. -/
import Derived.Test.YtaeedepojpablaaGreatDoorZq27
set_option linter.unusedVariables false
set_option linter.unusedSimpArgs false
set_option maxRecDepth 1000000
set_option maxHeartbeats 16000000
namespace Go.Proofs.YtaeedepojpablaaGreatDoor
open Go.RowKit
def st1 (l : Kinds) (y : GLit) : Kinds := if y.l.op ≠ 0 ∨ 3 ≤ y.op then numbersK l (leavesE y.l) else l
def stK (l : Kinds) (y : GLit) : Nat → Kinds
 | 0 => l
 | 1 => st1 l y
 | _ => if y.r.op ≠ 0 ∨ 3 ≤ y.op then numbersK (st1 l y) (leavesE y.r) else st1 l y
theorem stK_cmp (l : Kinds) (y : GLit) : cmpK leavesE l y = if 3 ≤ y.op then stK l y 2 else kput (kput (stK l y 2) y.l.t.x (sideK (stK l y 2) y.r)) y.r.t.x (sideK (kput (stK l y 2) y.l.t.x (sideK (stK l y 2) y.r)) y.l) := rfl
theorem idx2_0 (v0 v1 v2 v3 v4 v5 v6 v7 v8 v9 v10 v11 : Value) (W : World) : (Instr.index 191 (.agg #[v0, v1, v2, v3, v4, v5, v6, v7, v8, v9, v10, v11]) (.int .i64 0)).run Tryz.prog W = .ok (.agg #[v0, v1, v2, v3, v4, v5]) W := by kernel_rfl
theorem idx2_1 (v0 v1 v2 v3 v4 v5 v6 v7 v8 v9 v10 v11 : Value) (W : World) : (Instr.index 191 (.agg #[v0, v1, v2, v3, v4, v5, v6, v7, v8, v9, v10, v11]) (.int .i64 1)).run Tryz.prog W = .ok (.agg #[v6, v7, v8, v9, v10, v11]) W := by kernel_rfl
theorem compared_any (w0 : World) (g km : Nat) (cs : List Value) (l0 l : Kinds) (d : Nat) (y : GLit) (a p q : Hd) (w : World) (h : Scp w0 w g km cs l0 l) (hy : LitAt d w0 w0.heap.size y a p q) :
 Calls Tryz.prog 61 #[.pointer (some ⟨g, 0, none⟩), .agg (litC y a p q).toArray] w (TellPost w0 g km cs l0 (cmpK leavesE l y) w) := by
 have mixed : Tryz.prog.follows .mixedOrders = true := by kernel_rfl
 obtain ⟨pA, pn, pc⟩ := p; obtain ⟨qA, qn, qc⟩ := q; obtain ⟨V, hV⟩ : ∃ V, V = w.alloc (.cells (litC y a ⟨pA, pn, pc⟩ ⟨qA, qn, qc⟩).toArray 80) := ⟨_, rfl⟩
 have HVe := hZ9 hV.symm; have hr : V.heap[w.heap.size]? = some (.cells (litC y a ⟨pA, pn, pc⟩ ⟨qA, qn, qc⟩).toArray 80 (0, 0)) := by rw [hV]; exact heapNew rfl
 have hb : Below w.heap.size w V := by rw [hV]; exact belowA (Below.refl _ _) _
 have hgl := (glt hr)
 have hg := h.gb; have hkm := h.kb; have HS0 : Hid (Scp w0 V g km cs l0 (stK l y 0)) := h.on hb; have HB := hZ9 hb; have HLit := hZ9 hy; have HRow : Hid (∀ W, Out [g, km] V W → W.heap[w.heap.size]? = some (.cells (litC y a ⟨pA, pn, pc⟩ ⟨qA, qn, qc⟩).toArray 80 (0, 0))) := fun W hW => (hW.block _ hgl (by simp; omega)).trans hr
 have HCell : Hid (∀ W, Out [g, km] V W → W.cell? ⟨w.heap.size, 3, none⟩ = some (.int .i64 y.op) ∧
  (W.cell? ⟨w.heap.size, 4, none⟩ = some (.int .i64 y.l.op) ∧ W.cell? ⟨w.heap.size, 5, none⟩ = some (.string y.l.t.x) ∧ W.cell? ⟨w.heap.size, 6, none⟩ = some (.int .i64 y.l.t.v.k) ∧ W.cell? ⟨w.heap.size, 7, none⟩ = some (.int .i64 y.l.t.v.n) ∧ W.cell? ⟨w.heap.size, 8, none⟩ = some (.string y.l.t.v.s) ∧ W.cell? ⟨w.heap.size, 9, none⟩ = some (.slice pA pn pc)) ∧
  (W.cell? ⟨w.heap.size, 10, none⟩ = some (.int .i64 y.r.op) ∧ W.cell? ⟨w.heap.size, 11, none⟩ = some (.string y.r.t.x) ∧ W.cell? ⟨w.heap.size, 12, none⟩ = some (.int .i64 y.r.t.v.k) ∧ W.cell? ⟨w.heap.size, 13, none⟩ = some (.int .i64 y.r.t.v.n) ∧ W.cell? ⟨w.heap.size, 14, none⟩ = some (.string y.r.t.v.s) ∧ W.cell? ⟨w.heap.size, 15, none⟩ = some (.slice qA qn qc))) := fun W hW => by
  obtain ⟨-, -, -, f3, f4, f5, f6, f7, f8, f9, f10, f11, f12, f13, f14, f15, -⟩ := facts17 (HRow.out W hW); exact ⟨f3, ⟨f4, f5, f6, f7, f8, f9⟩, f10, f11, f12, f13, f14, f15⟩
 obtain ⟨P, HP⟩ : ∃ P : Ending → World → Prop, Hid (P = TellPost w0 g km cs l0 (cmpK leavesE l y) w) := ⟨_, rfl⟩
 rw [← HP.out]; obtain ⟨-, ⟨c4, c5, c6, c7, c8, c9⟩, c10, c11, c12, c13, c14, c15⟩ := HCell.out V (Out.refl _ _)
 have HEnd : Hid (∀ W l', Scp w0 W g km cs l0 l' → Out [g, km] V W → cmpK leavesE l y = l' → P (.returned (.tuple #[])) W) := fun W l' h1 h2 h3 => by
  rw [HP.out, h3]; exact ⟨rfl, h1, (Out.of_below HB.out [g, km]).trans h2 (fun b hb _ => hb)⟩
 clear h hV hr hb hy; go_enter Tryz.func61, Tryz.ntmps61
 go_wp2_with (rw [HVe.out])
 clear c4 c5 c6 c7 c8 c9 c10 c11 c12 c13 c14 c15; go_loopw [5, 11] (fun _ i wr => ∃ k : Nat, k ≤ 2 ∧ i = .int .i64 (k : Int) ∧ Hid (Scp w0 wr g km cs l0 (stK l y k)) ∧ Hid (Out [g, km] V wr)) (fun _ i _ => 2 - (intOf i).toNat)
 case atStart => exact ⟨0, by omega, rfl, HS0, Out.refl _ _⟩
 case round =>
  clear HS0; obtain ⟨k, hk, rfl, HSk, HOk⟩ := hrel; rcases (show k = 0 ∨ k = 1 ∨ k = 2 by omega) with hk0 | hk1 | hk2
  ·subst hk0; have i1 : ((0 : Nat) : Int) < 2 := by omega
   have hidx := fun W => idx2_0 (.int .i64 y.l.op) (.string y.l.t.x) (.int .i64 y.l.t.v.k) (.int .i64 y.l.t.v.n) (.string y.l.t.v.s) (.slice pA pn pc) (.int .i64 y.r.op) (.string y.r.t.x) (.int .i64 y.r.t.v.k) (.int .i64 y.r.t.v.n) (.string y.r.t.v.s) (.slice qA qn qc) W
   obtain ⟨Q, hQ⟩ : ∃ Q, Q = wr.alloc (.cells (expC y.l pA pn pc).toArray 78) := ⟨_, rfl⟩
   have HQe := hZ9 hQ.symm; have hbQ : Below wr.heap.size wr Q := by rw [hQ]; exact belowA (Below.refl _ _) _
   have hrQ : Q.heap[wr.heap.size]? = some (.cells (expC y.l pA pn pc).toArray 78 (0, 0)) := by rw [hQ]; exact heapNew rfl
   obtain ⟨y0, y1, y2, y3, y4, y5⟩ := facts6 hrQ; have HSQ := hZ9 (HSk.out.on hbQ); have hOQ : Out [g, km] V Q := HOk.out.trans (Out.of_below hbQ []) (by simp); have HOQ := hZ9 hOQ; have u3 := (HCell.out Q hOQ).1; have HN := hZ9 (numbers_any w0 g km cs l0 (stK l y 0) d y.l pA pn pc Q HSQ.out HLit.out.lk); clear hbQ hrQ hQ hOQ; by_cases h3 : 3 ≤ y.op
   ·have HT : Hid (stK l y 1 = numbersK (stK l y 0) (leavesE y.l)) := if_pos (.inr h3); rw [← HT.out] at HN; by_cases ho : y.l.op = 0
    ·have e1 : (y.l.op != 0) = false := by simpa using ho
     clear ho; go_wp2_with (rw [HQe.out])
     refine HN.out.mono ?_; rintro e w3 ⟨rfl, hs3, ho3⟩; have HS3 := hZ9 hs3; have HO3 : Hid (Out [g, km] V w3) := HOQ.out.trans ho3 (fun b hb _ => hb); clear hs3 ho3 HN HSQ HOQ y0 y1 y2 y3 y4 y5 u3 hidx; go_wp2_with fail
     go_roundw
     case rel => exact ⟨1, by omega, by go_num, HS3, HO3⟩
     case measure => simp [intOf]
    ·have e1 : (y.l.op != 0) = true := by simpa using ho
     clear ho; go_wp2_with (rw [HQe.out])
     refine HN.out.mono ?_; rintro e w3 ⟨rfl, hs3, ho3⟩; have HS3 := hZ9 hs3; have HO3 : Hid (Out [g, km] V w3) := HOQ.out.trans ho3 (fun b hb _ => hb); clear hs3 ho3 HN HSQ HOQ y0 y1 y2 y3 y4 y5 u3 hidx; go_wp2_with fail
     go_roundw
     case rel => exact ⟨1, by omega, by go_num, HS3, HO3⟩
     case measure => simp [intOf]
   ·by_cases ho : y.l.op = 0
    ·have e1 : (y.l.op != 0) = false := by simpa using ho
     have HT : Hid (stK l y 1 = stK l y 0) := if_neg (by rintro (h | h); exact h ho; exact h3 h); have HS3 : Hid (Scp w0 Q g km cs l0 (stK l y 1)) := by show Scp _ _ _ _ _ _ _; rw [HT.out]; exact HSQ.out
     clear ho HN HSQ HT; go_wp2_with (rw [HQe.out])
     go_roundw
     case rel => exact ⟨1, by omega, by go_num, HS3, HOQ⟩
     case measure => simp [intOf]
    ·have e1 : (y.l.op != 0) = true := by simpa using ho
     have HT : Hid (stK l y 1 = numbersK (stK l y 0) (leavesE y.l)) := if_pos (.inl ho); rw [← HT.out] at HN; clear ho; go_wp2_with (rw [HQe.out])
     refine HN.out.mono ?_; rintro e w3 ⟨rfl, hs3, ho3⟩; have HS3 := hZ9 hs3; have HO3 : Hid (Out [g, km] V w3) := HOQ.out.trans ho3 (fun b hb _ => hb); clear hs3 ho3 HN HSQ HOQ y0 y1 y2 y3 y4 y5 u3 hidx; go_wp2_with fail
     go_roundw
     case rel => exact ⟨1, by omega, by go_num, HS3, HO3⟩
     case measure => simp [intOf]
  ·subst hk1; have i1 : ((1 : Nat) : Int) < 2 := by omega
   have hidx := fun W => idx2_1 (.int .i64 y.l.op) (.string y.l.t.x) (.int .i64 y.l.t.v.k) (.int .i64 y.l.t.v.n) (.string y.l.t.v.s) (.slice pA pn pc) (.int .i64 y.r.op) (.string y.r.t.x) (.int .i64 y.r.t.v.k) (.int .i64 y.r.t.v.n) (.string y.r.t.v.s) (.slice qA qn qc) W
   obtain ⟨Q, hQ⟩ : ∃ Q, Q = wr.alloc (.cells (expC y.r qA qn qc).toArray 78) := ⟨_, rfl⟩
   have HQe := hZ9 hQ.symm; have hbQ : Below wr.heap.size wr Q := by rw [hQ]; exact belowA (Below.refl _ _) _
   have hrQ : Q.heap[wr.heap.size]? = some (.cells (expC y.r qA qn qc).toArray 78 (0, 0)) := by rw [hQ]; exact heapNew rfl
   obtain ⟨y0, y1, y2, y3, y4, y5⟩ := facts6 hrQ; have HSQ := hZ9 (HSk.out.on hbQ); have hOQ : Out [g, km] V Q := HOk.out.trans (Out.of_below hbQ []) (by simp); have HOQ := hZ9 hOQ; have u3 := (HCell.out Q hOQ).1; have HN := hZ9 (numbers_any w0 g km cs l0 (stK l y 1) d y.r qA qn qc Q HSQ.out HLit.out.rk); clear hbQ hrQ hQ hOQ; by_cases h3 : 3 ≤ y.op
   ·have HT : Hid (stK l y 2 = numbersK (stK l y 1) (leavesE y.r)) := if_pos (.inr h3); rw [← HT.out] at HN; by_cases ho : y.r.op = 0
    ·have e1 : (y.r.op != 0) = false := by simpa using ho
     clear ho; go_wp2_with (rw [HQe.out])
     refine HN.out.mono ?_; rintro e w3 ⟨rfl, hs3, ho3⟩; have HS3 := hZ9 hs3; have HO3 : Hid (Out [g, km] V w3) := HOQ.out.trans ho3 (fun b hb _ => hb); clear hs3 ho3 HN HSQ HOQ y0 y1 y2 y3 y4 y5 u3 hidx; go_wp2_with fail
     go_roundw
     case rel => exact ⟨2, by omega, by go_num, HS3, HO3⟩
     case measure => simp [intOf]
    ·have e1 : (y.r.op != 0) = true := by simpa using ho
     clear ho; go_wp2_with (rw [HQe.out])
     refine HN.out.mono ?_; rintro e w3 ⟨rfl, hs3, ho3⟩; have HS3 := hZ9 hs3; have HO3 : Hid (Out [g, km] V w3) := HOQ.out.trans ho3 (fun b hb _ => hb); clear hs3 ho3 HN HSQ HOQ y0 y1 y2 y3 y4 y5 u3 hidx; go_wp2_with fail
     go_roundw
     case rel => exact ⟨2, by omega, by go_num, HS3, HO3⟩
     case measure => simp [intOf]
   ·by_cases ho : y.r.op = 0
    ·have e1 : (y.r.op != 0) = false := by simpa using ho
     have HT : Hid (stK l y 2 = stK l y 1) := if_neg (by rintro (h | h); exact h ho; exact h3 h); have HS3 : Hid (Scp w0 Q g km cs l0 (stK l y 2)) := by show Scp _ _ _ _ _ _ _; rw [HT.out]; exact HSQ.out
     clear ho HN HSQ HT; go_wp2_with (rw [HQe.out])
     go_roundw
     case rel => exact ⟨2, by omega, by go_num, HS3, HOQ⟩
     case measure => simp [intOf]
    ·have e1 : (y.r.op != 0) = true := by simpa using ho
     have HT : Hid (stK l y 2 = numbersK (stK l y 1) (leavesE y.r)) := if_pos (.inl ho); rw [← HT.out] at HN; clear ho; go_wp2_with (rw [HQe.out])
     refine HN.out.mono ?_; rintro e w3 ⟨rfl, hs3, ho3⟩; have HS3 := hZ9 hs3; have HO3 : Hid (Out [g, km] V w3) := HOQ.out.trans ho3 (fun b hb _ => hb); clear hs3 ho3 HN HSQ HOQ y0 y1 y2 y3 y4 y5 u3 hidx; go_wp2_with fail
     go_roundw
     case rel => exact ⟨2, by omega, by go_num, HS3, HO3⟩
     case measure => simp [intOf]
  ·subst hk2; obtain ⟨f3, -, -⟩ := HCell.out wr HOk.out; by_cases h3 : 3 ≤ y.op
   ·have HE := hZ9 (HEnd.out wr _ HSk.out HOk.out (if_pos h3)); clear HSk HOk HEnd; go_wp2_with fail
    refine bodyPost_end (results_none rfl _ _ _) rfl HE.out
   ·have HC1 : Hid (∀ W, Below wr.heap.size wr W → W.cell? ⟨w.heap.size, 5, none⟩ = some (.string y.l.t.x) ∧ W.cell? ⟨w.heap.size, 10, none⟩ = some (.int .i64 y.r.op) ∧ W.cell? ⟨w.heap.size, 11, none⟩ = some (.string y.r.t.x) ∧ W.cell? ⟨w.heap.size, 12, none⟩ = some (.int .i64 y.r.t.v.k) ∧ W.cell? ⟨w.heap.size, 13, none⟩ = some (.int .i64 y.r.t.v.n) ∧ W.cell? ⟨w.heap.size, 14, none⟩ = some (.string y.r.t.v.s) ∧ W.cell? ⟨w.heap.size, 15, none⟩ = some (.slice qA qn qc)) := fun W hW => by
     obtain ⟨-, ⟨-, f5, -⟩, f10⟩ := HCell.out W (HOk.out.trans (Out.of_below hW []) (by simp)); exact ⟨f5, f10⟩
    have HSd1 : Hid (∀ W, Below wr.heap.size wr W → Calls Tryz.prog 101 #[.pointer (some ⟨g, 0, none⟩), .agg #[.int .i64 y.r.op, .string y.r.t.x, .int .i64 y.r.t.v.k, .int .i64 y.r.t.v.n, .string y.r.t.v.s, .slice qA qn qc]] W (fun r w' => r = .returned (.int .i64 (sideK (stK l y 2) y.r)) ∧ Below W.heap.size W w')) := fun W hW => sideK_any w0 g km cs l0 _ y.r qA qn qc W (HSk.out.on hW)
    obtain ⟨l3, Hl3⟩ : ∃ l3, Hid (kput (stK l y 2) y.l.t.x (sideK (stK l y 2) y.r) = l3) := ⟨_, rfl⟩
    have HT1 : Hid (∀ W, Below wr.heap.size wr W → Calls Tryz.prog 99 #[.pointer (some ⟨g, 0, none⟩), .string y.l.t.x, .int .i64 (sideK (stK l y 2) y.r)] W (TellPost w0 g km cs l0 l3 W)) := fun W hW => by rw [← Hl3.out]; exact tell_any w0 g km cs l0 _ y.l.t.x _ W (HSk.out.on hW)
    have HE3 : Hid (cmpK leavesE l y = kput l3 y.r.t.x (sideK l3 y.l)) := by show _ = _; rw [stK_cmp, if_neg h3, Hl3.out]
    obtain ⟨sd, Hsd⟩ : ∃ sd, Hid (sideK (stK l y 2) y.r = sd) := ⟨_, rfl⟩
    rw [Hsd.out] at HSd1 HT1; go_wp2_with fail
    clear f3; refine drawnM mixed _ (Below wr.heap.size wr) rfl (by kernel_rfl) rfl (Below.drew (Below.refl _ _)) ?_
    iterate 8
     apply seqL_op
     ·intro W hW; obtain ⟨k0, k1, k2, k3, k4, k5, k6⟩ := HC1.out W hW; go_wp2_with fail
      exact ⟨rfl, rfl, fun d hd => by cases hd; simp only [List.getElem?_toArray, List.getElem?_cons_succ, List.getElem?_cons_zero]; rfl, hW⟩
     simp only [Act.put, List.setIfInBounds_toArray, List.set_cons_succ, List.set_cons_zero]
    apply seqL_op
    ·intro W hW; go_wp2_with fail
     refine (HSd1.out W hW).mono ?_; rintro e w1 ⟨rfl, hb1⟩; go_wp2_with fail
     exact ⟨rfl, rfl, fun d hd => by cases hd; simp only [List.getElem?_toArray, List.getElem?_cons_succ, List.getElem?_cons_zero]; rfl, hW.trans (hb1.mono hW.size)⟩
    simp only [Act.put, List.setIfInBounds_toArray, List.set_cons_succ, List.set_cons_zero]; apply seqL_end; intro W hW; go_wp2_with fail
    refine (HT1.out W hW).mono ?_; rintro e w3 ⟨rfl, hs3, ho3⟩; have HS3 := hZ9 hs3; have HO3 : Hid (Out [g, km] V w3) := (HOk.out.trans (Out.of_below hW []) (by simp)).trans ho3 (fun b hb _ => hb); clear hs3 ho3 hW HT1 HSd1 HC1
    have HC2 : Hid (∀ W, Below w3.heap.size w3 W → W.cell? ⟨w.heap.size, 11, none⟩ = some (.string y.r.t.x) ∧ W.cell? ⟨w.heap.size, 4, none⟩ = some (.int .i64 y.l.op) ∧ W.cell? ⟨w.heap.size, 5, none⟩ = some (.string y.l.t.x) ∧ W.cell? ⟨w.heap.size, 6, none⟩ = some (.int .i64 y.l.t.v.k) ∧ W.cell? ⟨w.heap.size, 7, none⟩ = some (.int .i64 y.l.t.v.n) ∧ W.cell? ⟨w.heap.size, 8, none⟩ = some (.string y.l.t.v.s) ∧ W.cell? ⟨w.heap.size, 9, none⟩ = some (.slice pA pn pc)) := fun W hW => by
     obtain ⟨-, h4, -, f11, -⟩ := HCell.out W (HO3.out.trans (Out.of_below hW []) (by simp)); exact ⟨f11, h4⟩
    have HSd2 : Hid (∀ W, Below w3.heap.size w3 W → Calls Tryz.prog 101 #[.pointer (some ⟨g, 0, none⟩), .agg #[.int .i64 y.l.op, .string y.l.t.x, .int .i64 y.l.t.v.k, .int .i64 y.l.t.v.n, .string y.l.t.v.s, .slice pA pn pc]] W (fun r w' => r = .returned (.int .i64 (sideK l3 y.l)) ∧ Below W.heap.size W w')) := fun W hW => sideK_any w0 g km cs l0 _ y.l pA pn pc W (HS3.out.on hW)
    obtain ⟨l4, Hl4⟩ : ∃ l4, Hid (kput l3 y.r.t.x (sideK l3 y.l) = l4) := ⟨_, rfl⟩
    have HT2 : Hid (∀ W, Below w3.heap.size w3 W → Calls Tryz.prog 99 #[.pointer (some ⟨g, 0, none⟩), .string y.r.t.x, .int .i64 (sideK l3 y.l)] W (TellPost w0 g km cs l0 l4 W)) := fun W hW => by rw [← Hl4.out]; exact tell_any w0 g km cs l0 _ y.r.t.x _ W (HS3.out.on hW)
    have HE4 : Hid (cmpK leavesE l y = l4) := HE3.out.trans Hl4.out; obtain ⟨sd2, Hsd2⟩ : ∃ sd2, Hid (sideK l3 y.l = sd2) := ⟨_, rfl⟩
    rw [Hsd2.out] at HSd2 HT2; go_wp2_with fail
    refine drawnM mixed _ (Below w3.heap.size w3) rfl (by kernel_rfl) rfl (Below.drew (Below.refl _ _)) ?_
    iterate 8
     apply seqL_op
     ·intro W hW; obtain ⟨k0, k1, k2, k3, k4, k5, k6⟩ := HC2.out W hW; go_wp2_with fail
      exact ⟨rfl, rfl, fun d hd => by cases hd; simp only [List.getElem?_toArray, List.getElem?_cons_succ, List.getElem?_cons_zero]; rfl, hW⟩
     simp only [Act.put, List.setIfInBounds_toArray, List.set_cons_succ, List.set_cons_zero]
    apply seqL_op
    ·intro W hW; go_wp2_with fail
     refine (HSd2.out W hW).mono ?_; rintro e w1 ⟨rfl, hb1⟩; go_wp2_with fail
     exact ⟨rfl, rfl, fun d hd => by cases hd; simp only [List.getElem?_toArray, List.getElem?_cons_succ, List.getElem?_cons_zero]; rfl, hW.trans (hb1.mono hW.size)⟩
    simp only [Act.put, List.setIfInBounds_toArray, List.set_cons_succ, List.set_cons_zero]; apply seqL_end; intro W hW; go_wp2_with fail
    refine (HT2.out W hW).mono ?_; rintro e w4 ⟨rfl, hs4, ho4⟩; have HE := hZ9 (HEnd.out w4 l4 hs4 ((HO3.out.trans (Out.of_below hW []) (by simp)).trans ho4 (fun b hb _ => hb)) HE4.out); clear hs4 ho4 hW HT2 HSd2 HC2 HEnd; go_wp2_with fail
    refine bodyPost_end (results_none rfl _ _ _) rfl HE.out
end Go.Proofs.YtaeedepojpablaaGreatDoor

namespace Go.Proofs.YtaeedepojpablaaGreatDoor
open Go.RowKit
def sdK (y : GLit) (j : Nat) : GExp := if j = 0 then y.l else y.r
def badK (l : Kinds) (y : GLit) (j : Nat) : Prop := ((sdK y j).op ≠ 0 ∨ 3 ≤ y.op) ∧ (leavesE (sdK y j)).any (fun t => !fitsK l t 1) = true
theorem any_bad (l : Kinds) (e : GExp) : (leavesE e).any (fun t => !fitsK l t 1) = !(leavesE e).all (fun t => fitsK l t 1) := by
 rw [List.not_all_eq_any_not]
theorem cmpErr_bad {l : Kinds} {y : GLit} {j : Nat} (hj : j < 2) (h : badK l y j) : cmpErr l y = 7 := by
 unfold cmpErr; rcases (show j = 0 ∨ j = 1 by omega) with rfl | rfl
 ·exact if_pos h
 ·split
  ·rfl
  ·exact if_pos h
theorem cmpErr_good {l : Kinds} {y : GLit} (h : ∀ j, j < 2 → ¬ badK l y j) : cmpErr l y = if sideK l y.l ≠ sideK l y.r ∧ sideK l y.l ≠ 0 ∧ sideK l y.r ≠ 0 then 7 else 0 := by
 unfold cmpErr; have h0 := h 0 (by omega); have h1 := h 1 (by omega); unfold badK sdK at h0 h1; simp only [if_pos, Nat.one_ne_zero, if_false] at h0 h1; rw [if_neg h0, if_neg h1]
def IntPost (E : Int) (w : World) (e : Ending) (w' : World) : Prop := e = .returned (.int .i64 E) ∧ Below w.heap.size w w'
theorem cmp_any (w0 : World) (g km : Nat) (cs : List Value) (l0 l : Kinds) (d : Nat) (y : GLit) (a p q : Hd) (w : World) (h : Scp w0 w g km cs l0 l) (hy : LitAt d w0 w0.heap.size y a p q) :
 Calls Tryz.prog 65 #[.pointer (some ⟨g, 0, none⟩), .agg (litC y a p q).toArray] w (IntPost (cmpErr l y) w) := by
 have mixed : Tryz.prog.follows .mixedOrders = true := by kernel_rfl
 obtain ⟨pA, pn, pc⟩ := p; obtain ⟨qA, qn, qc⟩ := q; obtain ⟨V, hV⟩ : ∃ V, V = w.alloc (.cells (litC y a ⟨pA, pn, pc⟩ ⟨qA, qn, qc⟩).toArray 80) := ⟨_, rfl⟩
 have HVe := hZ9 hV.symm; have hr : V.heap[w.heap.size]? = some (.cells (litC y a ⟨pA, pn, pc⟩ ⟨qA, qn, qc⟩).toArray 80 (0, 0)) := by rw [hV]; exact heapNew rfl
 have hb : Below w.heap.size w V := by rw [hV]; exact belowA (Below.refl _ _) _
 have hgl := (glt hr)
 have HS0 := hZ9 (h.on hb); have HB := hZ9 hb; have HLit := hZ9 hy
 have HCell : Hid (∀ W, Below V.heap.size V W → W.cell? ⟨w.heap.size, 3, none⟩ = some (.int .i64 y.op) ∧
  (W.cell? ⟨w.heap.size, 4, none⟩ = some (.int .i64 y.l.op) ∧ W.cell? ⟨w.heap.size, 5, none⟩ = some (.string y.l.t.x) ∧ W.cell? ⟨w.heap.size, 6, none⟩ = some (.int .i64 y.l.t.v.k) ∧ W.cell? ⟨w.heap.size, 7, none⟩ = some (.int .i64 y.l.t.v.n) ∧ W.cell? ⟨w.heap.size, 8, none⟩ = some (.string y.l.t.v.s) ∧ W.cell? ⟨w.heap.size, 9, none⟩ = some (.slice pA pn pc)) ∧
  (W.cell? ⟨w.heap.size, 10, none⟩ = some (.int .i64 y.r.op) ∧ W.cell? ⟨w.heap.size, 11, none⟩ = some (.string y.r.t.x) ∧ W.cell? ⟨w.heap.size, 12, none⟩ = some (.int .i64 y.r.t.v.k) ∧ W.cell? ⟨w.heap.size, 13, none⟩ = some (.int .i64 y.r.t.v.n) ∧ W.cell? ⟨w.heap.size, 14, none⟩ = some (.string y.r.t.v.s) ∧ W.cell? ⟨w.heap.size, 15, none⟩ = some (.slice qA qn qc))) := fun W hW => by
  obtain ⟨-, -, -, f3, f4, f5, f6, f7, f8, f9, f10, f11, f12, f13, f14, f15, -⟩ := facts17 ((hW.block _ hgl).trans hr); exact ⟨f3, ⟨f4, f5, f6, f7, f8, f9⟩, f10, f11, f12, f13, f14, f15⟩
 obtain ⟨P, HP⟩ : ∃ P : Ending → World → Prop, Hid (P = IntPost (cmpErr l y) w) := ⟨_, rfl⟩
 rw [← HP.out]; obtain ⟨-, ⟨c4, c5, c6, c7, c8, c9⟩, c10, c11, c12, c13, c14, c15⟩ := HCell.out V (Below.refl _ _)
 have HBad : Hid (∀ W j, j < 2 → badK l y j → Below V.heap.size V W → P (.returned (.int .i64 7)) W) := fun W j hj h1 h2 => by
  rw [HP.out]; exact ⟨by rw [cmpErr_bad hj h1], HB.out.trans (h2.mono HB.out.size)⟩
 have HGood : Hid (∀ W v, (∀ j, j < 2 → ¬ badK l y j) → (if sideK l y.l ≠ sideK l y.r ∧ sideK l y.l ≠ 0 ∧ sideK l y.r ≠ 0 then 7 else 0) = v → Below V.heap.size V W → P (.returned (.int .i64 v)) W) := fun W v h1 hv h2 => by
  rw [HP.out]; exact ⟨by rw [cmpErr_good h1, hv], HB.out.trans (h2.mono HB.out.size)⟩
 clear h hV hr hb hy; go_enter Tryz.func65, Tryz.ntmps65
 go_wp2_with (rw [HVe.out])
 clear c4 c5 c6 c7 c8 c9 c10 c11 c12 c13 c14 c15; go_loopw [6, 14] (fun _ i wr => ∃ k : Nat, k ≤ 2 ∧ i = .int .i64 (k : Int) ∧ Hid (∀ j, j < k → ¬ badK l y j) ∧ Hid (Below V.heap.size V wr)) (fun _ i _ => 2 - (intOf i).toNat)
 case atStart => exact ⟨0, by omega, rfl, (fun j hj => by omega), Below.refl _ _⟩
 case round =>
  obtain ⟨k, hk, rfl, Hno, HOk⟩ := hrel; rcases (show k = 0 ∨ k = 1 ∨ k = 2 by omega) with hk0 | hk1 | hk2
  ·subst hk0; have i1 : ((0 : Nat) : Int) < 2 := by omega
   have hidx := fun W => idx2_0 (.int .i64 y.l.op) (.string y.l.t.x) (.int .i64 y.l.t.v.k) (.int .i64 y.l.t.v.n) (.string y.l.t.v.s) (.slice pA pn pc) (.int .i64 y.r.op) (.string y.r.t.x) (.int .i64 y.r.t.v.k) (.int .i64 y.r.t.v.n) (.string y.r.t.v.s) (.slice qA qn qc) W
   obtain ⟨Q, hQ⟩ : ∃ Q, Q = wr.alloc (.cells (expC y.l pA pn pc).toArray 78) := ⟨_, rfl⟩
   have HQe := hZ9 hQ.symm; have hbQ : Below wr.heap.size wr Q := by rw [hQ]; exact belowA (Below.refl _ _) _
   have hrQ : Q.heap[wr.heap.size]? = some (.cells (expC y.l pA pn pc).toArray 78 (0, 0)) := by rw [hQ]; exact heapNew rfl
   obtain ⟨y0, y1, y2, y3, y4, y5⟩ := facts6 hrQ; have hOQ : Below V.heap.size V Q := HOk.out.trans (hbQ.mono HOk.out.size); have HOQ := hZ9 hOQ; have u3 := (HCell.out Q hOQ).1; have HN := hZ9 (counts_any w0 g km cs l0 l d y.l pA pn pc Q (HS0.out.on hOQ) HLit.out.lk); obtain ⟨B, hB⟩ : ∃ B, (leavesE y.l).all (fun t => fitsK l t 1) = B := ⟨_, rfl⟩
   rw [hB] at HN
   have HNo : Hid (B = true → ∀ j, j < 1 → ¬ badK l y j) := fun hb j hj => by
    rcases (show j < 0 ∨ j = 0 by omega) with h | rfl
    ·exact Hno.out j h
    ·intro hbad; have := hbad.2; unfold sdK at this; rw [any_bad] at this; simp only [if_pos] at this; rw [hB, hb] at this; cases this
   have HBd : Hid (B = false → (y.l.op ≠ 0 ∨ 3 ≤ y.op) → badK l y 0) := fun hb hc => by
    refine ⟨by unfold sdK; simpa using hc, ?_⟩; unfold sdK; rw [any_bad]; simp only [if_pos]; rw [hB, hb]; rfl
   have HNn : Hid (¬ (y.l.op ≠ 0 ∨ 3 ≤ y.op) → ∀ j, j < 1 → ¬ badK l y j) := fun hc j hj => by
    rcases (show j < 0 ∨ j = 0 by omega) with h | rfl
    ·exact Hno.out j h
    ·intro hbad; exact hc (by have := hbad.1; unfold sdK at this; simpa using this)
   clear hbQ hrQ hQ hOQ hB; by_cases h3 : 3 ≤ y.op
   ·have HC : y.l.op ≠ 0 ∨ 3 ≤ y.op := .inr h3; by_cases ho : y.l.op = 0
    ·have e1 : (y.l.op != 0) = false := by simpa using ho
     clear ho; go_wp2_with (rw [HQe.out])
     refine HN.out.mono ?_; rintro e w3 ⟨rfl, hb3⟩; have HO3 : Hid (Below V.heap.size V w3) := HOQ.out.trans (hb3.mono HOQ.out.size); clear hb3 HN HOQ y0 y1 y2 y3 y4 y5 u3 hidx; cases B with
     | true =>
       have HNo2 := hZ9 (HNo.out rfl); clear HNo HBd HNn; go_wp2_with fail
       go_roundw
       case rel => exact ⟨1, by omega, by go_num, HNo2, HO3⟩
       case measure => simp [intOf]
     | false =>
       have HE := hZ9 (HBad.out w3 0 (by omega) (HBd.out rfl HC) HO3.out); clear HNo HBd HNn; go_wp2_with fail
       first | exact HE.out | (go_ret2; exact HE.out)
    ·have e1 : (y.l.op != 0) = true := by simpa using ho
     clear ho; go_wp2_with (rw [HQe.out])
     refine HN.out.mono ?_; rintro e w3 ⟨rfl, hb3⟩; have HO3 : Hid (Below V.heap.size V w3) := HOQ.out.trans (hb3.mono HOQ.out.size); clear hb3 HN HOQ y0 y1 y2 y3 y4 y5 u3 hidx; cases B with
     | true =>
       have HNo2 := hZ9 (HNo.out rfl); clear HNo HBd HNn; go_wp2_with fail
       go_roundw
       case rel => exact ⟨1, by omega, by go_num, HNo2, HO3⟩
       case measure => simp [intOf]
     | false =>
       have HE := hZ9 (HBad.out w3 0 (by omega) (HBd.out rfl HC) HO3.out); clear HNo HBd HNn; go_wp2_with fail
       first | exact HE.out | (go_ret2; exact HE.out)
   ·by_cases ho : y.l.op = 0
    ·have e1 : (y.l.op != 0) = false := by simpa using ho
     have HNo2 := hZ9 (HNn.out (by rintro (h | h); exact h ho; exact h3 h)); clear ho HN HNo HBd HNn; go_wp2_with (rw [HQe.out])
     go_roundw
     case rel => exact ⟨1, by omega, by go_num, HNo2, HOQ⟩
     case measure => simp [intOf]
    ·have e1 : (y.l.op != 0) = true := by simpa using ho
     have HC : y.l.op ≠ 0 ∨ 3 ≤ y.op := .inl ho; clear ho; go_wp2_with (rw [HQe.out])
     refine HN.out.mono ?_; rintro e w3 ⟨rfl, hb3⟩; have HO3 : Hid (Below V.heap.size V w3) := HOQ.out.trans (hb3.mono HOQ.out.size); clear hb3 HN HOQ y0 y1 y2 y3 y4 y5 u3 hidx; cases B with
     | true =>
       have HNo2 := hZ9 (HNo.out rfl); clear HNo HBd HNn; go_wp2_with fail
       go_roundw
       case rel => exact ⟨1, by omega, by go_num, HNo2, HO3⟩
       case measure => simp [intOf]
     | false =>
       have HE := hZ9 (HBad.out w3 0 (by omega) (HBd.out rfl HC) HO3.out); clear HNo HBd HNn; go_wp2_with fail
       first | exact HE.out | (go_ret2; exact HE.out)
  ·subst hk1; have i1 : ((1 : Nat) : Int) < 2 := by omega
   have hidx := fun W => idx2_1 (.int .i64 y.l.op) (.string y.l.t.x) (.int .i64 y.l.t.v.k) (.int .i64 y.l.t.v.n) (.string y.l.t.v.s) (.slice pA pn pc) (.int .i64 y.r.op) (.string y.r.t.x) (.int .i64 y.r.t.v.k) (.int .i64 y.r.t.v.n) (.string y.r.t.v.s) (.slice qA qn qc) W
   obtain ⟨Q, hQ⟩ : ∃ Q, Q = wr.alloc (.cells (expC y.r qA qn qc).toArray 78) := ⟨_, rfl⟩
   have HQe := hZ9 hQ.symm; have hbQ : Below wr.heap.size wr Q := by rw [hQ]; exact belowA (Below.refl _ _) _
   have hrQ : Q.heap[wr.heap.size]? = some (.cells (expC y.r qA qn qc).toArray 78 (0, 0)) := by rw [hQ]; exact heapNew rfl
   obtain ⟨y0, y1, y2, y3, y4, y5⟩ := facts6 hrQ; have hOQ : Below V.heap.size V Q := HOk.out.trans (hbQ.mono HOk.out.size); have HOQ := hZ9 hOQ; have u3 := (HCell.out Q hOQ).1; have HN := hZ9 (counts_any w0 g km cs l0 l d y.r qA qn qc Q (HS0.out.on hOQ) HLit.out.rk); obtain ⟨B, hB⟩ : ∃ B, (leavesE y.r).all (fun t => fitsK l t 1) = B := ⟨_, rfl⟩
   rw [hB] at HN
   have HNo : Hid (B = true → ∀ j, j < 2 → ¬ badK l y j) := fun hb j hj => by
    rcases (show j < 1 ∨ j = 1 by omega) with h | rfl
    ·exact Hno.out j h
    ·intro hbad; have := hbad.2; unfold sdK at this; rw [any_bad] at this; simp only [Nat.one_ne_zero, if_false] at this; rw [hB, hb] at this; cases this
   have HBd : Hid (B = false → (y.r.op ≠ 0 ∨ 3 ≤ y.op) → badK l y 1) := fun hb hc => by
    refine ⟨by unfold sdK; simpa using hc, ?_⟩; unfold sdK; rw [any_bad]; simp only [Nat.one_ne_zero, if_false]; rw [hB, hb]; rfl
   have HNn : Hid (¬ (y.r.op ≠ 0 ∨ 3 ≤ y.op) → ∀ j, j < 2 → ¬ badK l y j) := fun hc j hj => by
    rcases (show j < 1 ∨ j = 1 by omega) with h | rfl
    ·exact Hno.out j h
    ·intro hbad; exact hc (by have := hbad.1; unfold sdK at this; simpa using this)
   clear hbQ hrQ hQ hOQ hB; by_cases h3 : 3 ≤ y.op
   ·have HC : y.r.op ≠ 0 ∨ 3 ≤ y.op := .inr h3; by_cases ho : y.r.op = 0
    ·have e1 : (y.r.op != 0) = false := by simpa using ho
     clear ho; go_wp2_with (rw [HQe.out])
     refine HN.out.mono ?_; rintro e w3 ⟨rfl, hb3⟩; have HO3 : Hid (Below V.heap.size V w3) := HOQ.out.trans (hb3.mono HOQ.out.size); clear hb3 HN HOQ y0 y1 y2 y3 y4 y5 u3 hidx; cases B with
     | true =>
       have HNo2 := hZ9 (HNo.out rfl); clear HNo HBd HNn; go_wp2_with fail
       go_roundw
       case rel => exact ⟨2, by omega, by go_num, HNo2, HO3⟩
       case measure => simp [intOf]
     | false =>
       have HE := hZ9 (HBad.out w3 1 (by omega) (HBd.out rfl HC) HO3.out); clear HNo HBd HNn; go_wp2_with fail
       first | exact HE.out | (go_ret2; exact HE.out)
    ·have e1 : (y.r.op != 0) = true := by simpa using ho
     clear ho; go_wp2_with (rw [HQe.out])
     refine HN.out.mono ?_; rintro e w3 ⟨rfl, hb3⟩; have HO3 : Hid (Below V.heap.size V w3) := HOQ.out.trans (hb3.mono HOQ.out.size); clear hb3 HN HOQ y0 y1 y2 y3 y4 y5 u3 hidx; cases B with
     | true =>
       have HNo2 := hZ9 (HNo.out rfl); clear HNo HBd HNn; go_wp2_with fail
       go_roundw
       case rel => exact ⟨2, by omega, by go_num, HNo2, HO3⟩
       case measure => simp [intOf]
     | false =>
       have HE := hZ9 (HBad.out w3 1 (by omega) (HBd.out rfl HC) HO3.out); clear HNo HBd HNn; go_wp2_with fail
       first | exact HE.out | (go_ret2; exact HE.out)
   ·by_cases ho : y.r.op = 0
    ·have e1 : (y.r.op != 0) = false := by simpa using ho
     have HNo2 := hZ9 (HNn.out (by rintro (h | h); exact h ho; exact h3 h)); clear ho HN HNo HBd HNn; go_wp2_with (rw [HQe.out])
     go_roundw
     case rel => exact ⟨2, by omega, by go_num, HNo2, HOQ⟩
     case measure => simp [intOf]
    ·have e1 : (y.r.op != 0) = true := by simpa using ho
     have HC : y.r.op ≠ 0 ∨ 3 ≤ y.op := .inl ho; clear ho; go_wp2_with (rw [HQe.out])
     refine HN.out.mono ?_; rintro e w3 ⟨rfl, hb3⟩; have HO3 : Hid (Below V.heap.size V w3) := HOQ.out.trans (hb3.mono HOQ.out.size); clear hb3 HN HOQ y0 y1 y2 y3 y4 y5 u3 hidx; cases B with
     | true =>
       have HNo2 := hZ9 (HNo.out rfl); clear HNo HBd HNn; go_wp2_with fail
       go_roundw
       case rel => exact ⟨2, by omega, by go_num, HNo2, HO3⟩
       case measure => simp [intOf]
     | false =>
       have HE := hZ9 (HBad.out w3 1 (by omega) (HBd.out rfl HC) HO3.out); clear HNo HBd HNn; go_wp2_with fail
       first | exact HE.out | (go_ret2; exact HE.out)
  ·subst hk2
   have HC1 : Hid (∀ W, Below wr.heap.size wr W → (W.cell? ⟨w.heap.size, 4, none⟩ = some (.int .i64 y.l.op) ∧ W.cell? ⟨w.heap.size, 5, none⟩ = some (.string y.l.t.x) ∧ W.cell? ⟨w.heap.size, 6, none⟩ = some (.int .i64 y.l.t.v.k) ∧ W.cell? ⟨w.heap.size, 7, none⟩ = some (.int .i64 y.l.t.v.n) ∧ W.cell? ⟨w.heap.size, 8, none⟩ = some (.string y.l.t.v.s) ∧ W.cell? ⟨w.heap.size, 9, none⟩ = some (.slice pA pn pc)) ∧
    (W.cell? ⟨w.heap.size, 10, none⟩ = some (.int .i64 y.r.op) ∧ W.cell? ⟨w.heap.size, 11, none⟩ = some (.string y.r.t.x) ∧ W.cell? ⟨w.heap.size, 12, none⟩ = some (.int .i64 y.r.t.v.k) ∧ W.cell? ⟨w.heap.size, 13, none⟩ = some (.int .i64 y.r.t.v.n) ∧ W.cell? ⟨w.heap.size, 14, none⟩ = some (.string y.r.t.v.s) ∧ W.cell? ⟨w.heap.size, 15, none⟩ = some (.slice qA qn qc))) := fun W hW => (HCell.out W (HOk.out.trans (hW.mono HOk.out.size))).2
   have HSw := hZ9 (HS0.out.on HOk.out); obtain ⟨sa, Hsa⟩ : ∃ sa, Hid (sideK l y.l = sa) := ⟨_, rfl⟩
   obtain ⟨sb, Hsb⟩ : ∃ sb, Hid (sideK l y.r = sb) := ⟨_, rfl⟩
   have HSd1 : Hid (∀ W, Below wr.heap.size wr W → Calls Tryz.prog 101 #[.pointer (some ⟨g, 0, none⟩), .agg #[.int .i64 y.l.op, .string y.l.t.x, .int .i64 y.l.t.v.k, .int .i64 y.l.t.v.n, .string y.l.t.v.s, .slice pA pn pc]] W (fun r w' => r = .returned (.int .i64 sa) ∧ Below W.heap.size W w')) := fun W hW => by rw [← Hsa.out]; exact sideK_any w0 g km cs l0 _ y.l pA pn pc W (HSw.out.on hW)
   have HSd2 : Hid (∀ W, Below wr.heap.size wr W → Calls Tryz.prog 101 #[.pointer (some ⟨g, 0, none⟩), .agg #[.int .i64 y.r.op, .string y.r.t.x, .int .i64 y.r.t.v.k, .int .i64 y.r.t.v.n, .string y.r.t.v.s, .slice qA qn qc]] W (fun r w' => r = .returned (.int .i64 sb) ∧ Below W.heap.size W w')) := fun W hW => by rw [← Hsb.out]; exact sideK_any w0 g km cs l0 _ y.r qA qn qc W (HSw.out.on hW)
   have HEn : Hid (∀ W v, (if sa ≠ sb ∧ sa ≠ 0 ∧ sb ≠ 0 then (7 : Int) else 0) = v → Below wr.heap.size wr W → P (.returned (.int .i64 v)) W) := fun W v h1 h2 => HGood.out W v Hno.out (by rw [Hsa.out, Hsb.out]; exact h1) (HOk.out.trans (h2.mono HOk.out.size))
   clear HBad HGood Hno HOk HSw HLit HS0 HCell; go_wp2_with fail
   refine drawnS mixed _ (Below wr.heap.size wr) rfl (by kernel_rfl) rfl (Below.drew (Below.refl _ _)) ?_
   iterate 3
    apply seqS_op
    ·intro W hW; obtain ⟨⟨k1, k2, k3, k4, k5, k6⟩, k7, k8, k9, k10, k11, k12⟩ := HC1.out W hW; go_wp2_with fail
     exact ⟨rfl, rfl, fun d hd => by cases hd; simp only [List.getElem?_toArray, List.getElem?_cons_succ, List.getElem?_cons_zero]; rfl, hW⟩
    simp only [Act.put, List.setIfInBounds_toArray, List.set_cons_succ, List.set_cons_zero]
   apply seqS_op
   ·intro W hW; go_wp2_with fail
    refine (HSd1.out W hW).mono ?_; rintro e w1 ⟨rfl, hb1⟩; go_wp2_with fail
    exact ⟨rfl, rfl, fun d hd => by cases hd; simp only [List.getElem?_toArray, List.getElem?_cons_succ, List.getElem?_cons_zero]; rfl, hW.trans (hb1.mono hW.size)⟩
   simp only [Act.put, List.setIfInBounds_toArray, List.set_cons_succ, List.set_cons_zero]
   iterate 3
    apply seqS_op
    ·intro W hW; obtain ⟨⟨k1, k2, k3, k4, k5, k6⟩, k7, k8, k9, k10, k11, k12⟩ := HC1.out W hW; go_wp2_with fail
     exact ⟨rfl, rfl, fun d hd => by cases hd; simp only [List.getElem?_toArray, List.getElem?_cons_succ, List.getElem?_cons_zero]; rfl, hW⟩
    simp only [Act.put, List.setIfInBounds_toArray, List.set_cons_succ, List.set_cons_zero]
   apply seqS_op
   ·intro W hW; go_wp2_with fail
    refine (HSd2.out W hW).mono ?_; rintro e w1 ⟨rfl, hb1⟩; go_wp2_with fail
    exact ⟨rfl, rfl, fun d hd => by cases hd; simp only [List.getElem?_toArray, List.getElem?_cons_succ, List.getElem?_cons_zero]; rfl, hW.trans (hb1.mono hW.size)⟩
   simp only [Act.put, List.setIfInBounds_toArray, List.set_cons_succ, List.set_cons_zero]
   iterate 2
    apply seqS_op
    ·intro W hW; go_wp2_with fail
     exact ⟨rfl, rfl, fun d hd => by cases hd; simp only [List.getElem?_toArray, List.getElem?_cons_succ, List.getElem?_cons_zero]; rfl, hW⟩
    simp only [Act.put, List.setIfInBounds_toArray, List.set_cons_succ, List.set_cons_zero]
   apply seqS_end; intro W hW; have HW := hZ9 hW; clear hW HC1 HSd1 HSd2 Hsa Hsb; by_cases ha : sa = 0
   ·have HE := hZ9 (HEn.out W 0 (if_neg (fun q => q.2.1 ha)) HW.out); have e1 : (sa != 0) = false := by simpa using ha
    clear HEn ha; go_wp2_with fail
    first | exact HE.out | (go_ret2; exact HE.out)
   have e1 : (sa != 0) = true := by simpa using ha
   by_cases hbb : sb = 0
   ·have HE := hZ9 (HEn.out W 0 (if_neg (fun q => q.2.2 hbb)) HW.out); have e2 : (sb != 0) = false := by simpa using hbb
    clear HEn ha hbb; go_wp2_with fail
    first | exact HE.out | (go_ret2; exact HE.out)
   have e2 : (sb != 0) = true := by simpa using hbb
   by_cases hab : sa = sb
   ·have HE := hZ9 (HEn.out W 0 (if_neg (fun q => q.1 hab)) HW.out); have e3 : (sa != sb) = false := by simpa using hab
    clear HEn ha hbb hab; go_wp2_with fail
    first | exact HE.out | (go_ret2; exact HE.out)
   have e3 : (sa != sb) = true := by simpa using hab
   have HE := hZ9 (HEn.out W 7 (if_pos ⟨hab, ha, hbb⟩) HW.out); clear HEn ha hbb hab; go_wp2_with fail
   first | exact HE.out | (go_ret2; exact HE.out)
end Go.Proofs.YtaeedepojpablaaGreatDoor
