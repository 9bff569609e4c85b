/- My own texts DgPs, LiftDepsPaths, FactsDepsPaths, as far as this claim needs them. -/
import Derived.Test.YtgphngjniplonaaGreatDoorZp31
import Derived.Test.YtgphngjniplonaaGreatDoorZpc10
import Derived.Test.YtgphngjniplonaaGreatDoorZpc11
set_option linter.unusedVariables false
set_option linter.unusedSimpArgs false
set_option maxRecDepth 1000000
set_option maxHeartbeats 16000000
namespace Go.Proofs.YtgphngjniplonaaGreatDoor
open Go.RowKit Go.Shelf
attribute [local go_sem] Oper.semAt_some
def dpF (r : Nat) (L : List Int) (i : Nat) (v : Value) (W : World) : Prop := match i with
 | 13 => ∃ A c, v = .slice A r c ∧ SliceIs Enc.int W W.heap.size A r c L
 | 16 => ∃ A c, v = .slice A r c ∧ SliceIs Enc.int W W.heap.size A r c L
 | _ => True
theorem dpF_keep {r : Nat} {L : List Int} {i : Nat} {v : Value} {W W' : World} (h : dpF r L i v W) (hb : Below W.heap.size W W') : dpF r L i v W' := by
 unfold dpF at h ⊢
 split at h
 ·obtain ⟨A, c, h1, h2⟩ := h; exact ⟨A, c, h1, h2.keep hb⟩
 ·obtain ⟨A, c, h1, h2⟩ := h; exact ⟨A, c, h1, h2.keep hb⟩
 ·trivial
theorem depsPaths_walk (n a b : Int) (A : Option Addr) (m c : Nat) (l : List GEdge) (w : World) (h : SliceIs Enc.edge w w.heap.size A m c l) (hP : ParW w) :
  Calls Tryz.prog 5 #[.agg #[.int .i64 n, .slice A m c], .int .i64 a, .int .i64 b] w (RetBool true w) := by
 have mixed : Tryz.prog.follows .mixedOrders = true := by kernel_rfl
 have hlen : l.length = m := h.1
 have HA := Lib.hid (fun (W : World) (hb : Below w.heap.size w W) => alive10_any W (hP.on hb))
 have HSl0 : Hid (∀ W, Below w.heap.size w W → SliceIs Enc.edge W W.heap.size A m c l) := fun W hb => h.keep hb
 have Hlen := Lib.hid hlen
 clear h hP hlen
 have hyu : undef = Value.tuple #[] := rfl
 refine (callsIn_wide (n := 8)).1 ?_
 refine callsIn_of_wp_marks Tryz.func5 rfl trivial ?_ rfl
 simp only [Tryz.ntmps5, List.size_toArray, List.length_cons, List.length_nil, Nat.reduceAdd, Nat.reduceSub, Array.replicate_succ, Array.replicate_zero, List.push_toArray, List.append_toArray, List.nil_append, List.cons_append]
 refine wpIn_wide.2 ?_
 go_wp2_with fail
 have hb1 : Below w.heap.size w (((w.alloc (.cells #[.int .i64 n, .slice A m c] 31)).alloc (.cells #[.int .i64 a] 3)).alloc (.cells #[.bool false] 4)) := belowA (belowA (belowA (Below.refl _ _) _) _) _
 have r0 : (((w.alloc (.cells #[.int .i64 n, .slice A m c] 31)).alloc (.cells #[.int .i64 a] 3)).alloc (.cells #[.bool false] 4)).heap[w.heap.size]? = some (.cells #[.int .i64 n, .slice A m c] 31 (0, 0)) := heapOld (heapOld (heapNew rfl))
 have r1 : (((w.alloc (.cells #[.int .i64 n, .slice A m c] 31)).alloc (.cells #[.int .i64 a] 3)).alloc (.cells #[.bool false] 4)).heap[w.heap.size + 1]? = some (.cells #[.int .i64 a] 3 (0, 0)) := heapOld (heapNew (by simp))
 have r2 : (((w.alloc (.cells #[.int .i64 n, .slice A m c] 31)).alloc (.cells #[.int .i64 a] 3)).alloc (.cells #[.bool false] 4)).heap[w.heap.size + 1 + 1]? = some (.cells #[.bool false] 4 (0, 0)) := heapNew (by simp)
 generalize ((w.alloc (.cells #[.int .i64 n, .slice A m c] 31)).alloc (.cells #[.int .i64 a] 3)).alloc (.cells #[.bool false] 4) = w1 at *
 refine (HA.out w1 hb1).mono ?_
 rintro e w2 ⟨rfl, hb2⟩
 replace r0 := (hb2.block _ (Array.getElem?_eq_some_iff.1 r0).1).trans r0
 replace r1 := (hb2.block _ (Array.getElem?_eq_some_iff.1 r1).1).trans r1
 replace r2 := (hb2.block _ (Array.getElem?_eq_some_iff.1 r2).1).trans r2
 replace hb1 := below_next hb1 hb2
 obtain ⟨f0, f1⟩ := facts2 r0
 have HL := Lib.hid (large_any n A m c w2)
 have HB1 := Lib.hid hb1
 clear hb2 HA hb1
 go_wp2_with fail
 refine HL.out.mono ?_
 rintro e w3 ⟨rfl, hb3⟩
 replace r0 := (hb3.block _ (Array.getElem?_eq_some_iff.1 r0).1).trans r0
 replace r1 := (hb3.block _ (Array.getElem?_eq_some_iff.1 r1).1).trans r1
 replace r2 := (hb3.block _ (Array.getElem?_eq_some_iff.1 r2).1).trans r2
 have HB3 := Lib.hid (below_next HB1.out hb3)
 have cz : w3.cell? ⟨w.heap.size + 1 + 1, 0, none⟩ = some (.bool false) := (cell_of_row _ _ 0 _ _ _ r2).trans rfl
 have fz : w3.frozen? ⟨w.heap.size + 1 + 1, 0, none⟩ = false := frozen_of_row _ _ _ _ _ r2
 clear hb3 HL HB1 f0 f1
 cases hlg : largeB n m with
 | true =>
  have v2 := set_zero (v := .bool true) r2
  have cr2 : (w3.setCell ⟨w.heap.size + 1 + 1, 0, none⟩ (.bool true)).cell? ⟨w.heap.size + 1 + 1, 0, none⟩ = some (.bool true) := (cell_of_row _ _ 0 _ _ _ v2).trans rfl
  have HE : Hid (Below w.heap.size w (w3.setCell ⟨w.heap.size + 1 + 1, 0, none⟩ (.bool true))) := HB3.out.setCell (by show w.heap.size ≤ w.heap.size + 1 + 1; omega) _
  clear r0 r1 r2 HSl0 v2
  go_wp2_with fail
  exact ⟨.bool true, by simp [results, Tryz.results5, go_sem, cr2], rfl, HE.out⟩
 | false =>
 have hlg2 : m ≤ 60 ∧ (n ≤ 12 ∨ 32 < n) := by
  unfold largeB at hlg
  simp only [Bool.or_eq_false_iff, Bool.and_eq_false_iff, decide_eq_false_iff_not] at hlg
  omega
 obtain ⟨hm60, hn12⟩ := hlg2
 obtain ⟨f0, f1⟩ := facts2 r0
 have HD := Lib.hid (document_any n A m c l w3 (HSl0.out w3 HB3.out) (by omega))
 clear hlg fz cz
 go_wp2_with fail
 refine HD.out.mono ?_
 rintro e w4 ⟨B, cB, rfl, hsB, hb4⟩
 rw [Hlen.out] at hsB ⊢
 clear HD f0 f1
 have hg3 := (Array.getElem?_eq_some_iff.1 r0).1
 have hg4 : w.heap.size + 1 + 1 < w4.heap.size := Nat.lt_of_lt_of_le (Array.getElem?_eq_some_iff.1 r2).1 hb4.size
 have hrB : (w4.alloc (.cells #[.int .i64 n, .slice B m cB] 35)).heap[w4.heap.size]? = some (.cells #[.int .i64 n, .slice B m cB] 35 (0, 0)) := heapNew rfl
 have hbX : Below w3.heap.size w3 (w4.alloc (.cells #[.int .i64 n, .slice B m cB] 35)) := hb4.alloc hb4.size _
 have HsB : Hid (SliceIs Enc.edge (w4.alloc (.cells #[.int .i64 n, .slice B m cB] 35)) (w4.alloc (.cells #[.int .i64 n, .slice B m cB] 35)).heap.size B m cB l) := hsB.keep (belowA (Below.refl _ _) _)
 replace r0 := (hbX.block _ (Array.getElem?_eq_some_iff.1 r0).1).trans r0
 replace r1 := (hbX.block _ (Array.getElem?_eq_some_iff.1 r1).1).trans r1
 replace r2 := (hbX.block _ (Array.getElem?_eq_some_iff.1 r2).1).trans r2
 have HB5 := Lib.hid (below_next HB3.out hbX)
 clear hsB hbX hb4 HB3
 go_wp2_with fail
 have hgd1 : w4.heap.size < (w4.alloc (.cells #[.int .i64 n, .slice B m cB] 35)).heap.size := by simp
 generalize w4.alloc (.cells #[.int .i64 n, .slice B m cB] 35) = w5 at *
 generalize w4.heap.size = gd at *
 have HKit : Hid (∀ W, Below w5.heap.size w5 W → W.heap[w.heap.size]? = some (.cells #[.int .i64 n, .slice A m c] 31 (0, 0)) ∧ W.heap[w.heap.size + 1]? = some (.cells #[.int .i64 a] 3 (0, 0)) ∧ W.heap[w.heap.size + 1 + 1]? = some (.cells #[.bool false] 4 (0, 0)) ∧ W.heap[gd]? = some (.cells #[.int .i64 n, .slice B m cB] 35 (0, 0)) ∧ Below w.heap.size w W) := fun W hW =>
  ⟨(hW.block _ (by omega)).trans r0, (hW.block _ (by omega)).trans r1, (hW.block _ (by omega)).trans r2, (hW.block _ hgd1).trans hrB, below_next HB5.out hW⟩
 have HR := Lib.hid (refRightG_any n B m cB l w5 HsB.out)
 clear r0 r1 r2 hrB HB5 hg3
 refine HR.out.mono ?_
 rintro e w6 ⟨rfl, hb6⟩
 obtain ⟨p0, p1, p2, p3, p4⟩ := HKit.out w6 hb6
 obtain ⟨f0, f1⟩ := facts2 p0
 have f2 : w6.cell? ⟨w.heap.size + 1, 0, none⟩ = some (.int .i64 a) := (cell_of_row _ _ 0 _ _ _ p1).trans rfl
 have hz6 := hb6.size
 have HB6 := Lib.hid hb6
 clear p0 p1 p2 p3 hb6 HR
 cases hrg : rightG n l with
 | false =>
  have hno : ¬ rightG n l = true := by rw [hrg]; decide
  have HPa := Lib.hid (path_any n a b A m c l w6 (HSl0.out w6 p4))
  clear p4
  go_wp2_with fail
  refine HPa.out.mono ?_
  rintro e w7 ⟨hb7, h7⟩
  obtain ⟨-, rfl⟩ : _ ∧ e = .returned (.tuple #[.slice none 0 0, .bool false]) := by
   rcases h7 with h7 | ⟨g, c', p, hp, -⟩
   ·exact h7
   ·exact absurd hp.1.1 hno
  have HB7 := Lib.hid (HB6.out.trans (hb7.mono hz6))
  clear hb7 HPa f0 f1 f2
  obtain ⟨p0, p1, p2, p3, p4⟩ := HKit.out w7 HB7.out
  obtain ⟨f0, f1⟩ := facts2 p0
  have f2 : w7.cell? ⟨w.heap.size + 1, 0, none⟩ = some (.int .i64 a) := (cell_of_row _ _ 0 _ _ _ p1).trans rfl
  clear p0 p1 p2 p3 p4
  go_wp2_with fail
  refine (needs_any n A m c a w7).mono ?_
  rintro e w8 ⟨rfl, hw8⟩
  have hb8 : Below w7.heap.size w7 w8 := by rw [hw8]; exact belowA (belowA (Below.refl _ _) _) _
  have hg1 : w8.heap[w7.heap.size]? = some (.cells #[.int .i64 n, .slice A m c] 31 (0, 0)) := by rw [hw8]; exact heapOld (heapNew rfl)
  have hg2 : w8.heap[w7.heap.size + 1]? = some (.cells #[.int .i64 a] 3 (0, 0)) := by rw [hw8]; exact heapNew (by simp)
  have HB8 := Lib.hid (HB7.out.trans (hb8.mono HB7.out.size))
  have hz8 := HB8.out.size
  clear hw8 f0 f1 f2
  have HQ := Lib.hid (needs_seq (HSl0.out w (Below.refl _ _)) (HKit.out w8 HB8.out).2.2.2.2 hg1 hg2 [] (by simp) (by simp) (by simp))
  have hnil : needsG n l a = [] := needsG_none (fun h => hno h.1)
  rw [hnil] at HQ
  clear hg1 hg2 hnil hb8
  go_wp2_with fail
  refine (wpIn_wide (n := 8)).1 (range_law2 (hg := rfl) (eg := enters_of Tryz.func48 (by kernel_rfl) rfl) (hseq := HQ.out) (hb0 := Below.refl _ _) ?hS (hps := fun _ => rfl)
   (I := fun N pre V => Below w5.heap.size w5 V) (Ix := fun _ _ _ _ => False) ?hI ?hIx ?h0 ?round ?done ?stop)
  case hS => intro b hb; cases hb
  case hI => exact fun N pre V V' h1 hs' => h1.trans (hs'.below hz8 h1.size)
  case hIx => exact fun _ _ _ _ _ h _ => h
  case h0 => exact fun N V hs' _ _ => HB8.out.trans (hs'.below hz8 hz8)
  case round =>
   rintro k N pre x W0 W1 K h1 hs' hN hN2 hW01 ⟨t, ht⟩ hK
   simp at ht
  case stop => exact fun _ _ _ _ _ h _ => h.elim
  case done =>
   rintro N xs W - h2 hD
   obtain ⟨p0, p1, p2, p3, p4⟩ := HKit.out W h2
   obtain ⟨f0, f1⟩ := facts2 p0
   have f2 : W.cell? ⟨w.heap.size + 1, 0, none⟩ = some (.int .i64 a) := (cell_of_row _ _ 0 _ _ _ p1).trans rfl
   have HRe := Lib.hid (reached_any n a A m c l W (HSl0.out W p4))
   have H2 := Lib.hid h2
   have HDd := Lib.hid hD
   have hDl := (Array.getElem?_eq_some_iff.1 hD).1
   clear p0 p1 p2 p3 p4 h2 hD HQ
   go_wp2_with fail
   refine HRe.out.mono ?_
   rintro e w9 ⟨A9, c9, rfl, -, hb9⟩
   rw [reach_bad hno]
   have h9 := H2.out.trans (hb9.mono H2.out.size)
   obtain ⟨p0, p1, p2, p3, p4⟩ := HKit.out w9 h9
   have hD9 := (hb9.block _ hDl).trans HDd.out
   have cz : w9.cell? ⟨w.heap.size + 1 + 1, 0, none⟩ = some (.bool false) := (cell_of_row _ _ 0 _ _ _ p2).trans rfl
   have fz : w9.frozen? ⟨w.heap.size + 1 + 1, 0, none⟩ = false := frozen_of_row _ _ _ _ _ p2
   have hFin : Hid (∀ V, Soft w8.heap.size (w9.setCell ⟨w.heap.size + 1 + 1, 0, none⟩ (.bool true)) V → V.cell? ⟨w.heap.size + 1 + 1, 0, none⟩ = some (.bool true) ∧ Below w.heap.size w V) := fun V hV => by
    have v2 := set_zero (v := .bool true) p2
    refine ⟨(cell_of_row _ _ 0 _ _ _ (hV.row v2)).trans rfl, ?_⟩
    have hb : Below w.heap.size w (w9.setCell ⟨w.heap.size + 1 + 1, 0, none⟩ (.bool true)) := p4.setCell (by show w.heap.size ≤ w.heap.size + 1 + 1; omega) _
    exact hb.trans (hV.below (by omega) hb.size)
   have HMk : Hid (MarksOk w8.heap.size [w8.heap.size] (w9.setCell ⟨w.heap.size + 1 + 1, 0, none⟩ (.bool true))) := by
    refine ⟨by simp, fun b hb => ?_⟩
    rw [List.mem_singleton.1 hb]
    exact ⟨Nat.le_refl _, (World.heap_setCells_other' (by omega)).trans hD9⟩
   clear p0 p1 p2 p3 p4 h9 hb9 f0 f1 f2 hD9 HRe
   go_wp2_with fail
   exact leaves_marks [w8.heap.size] _ HMk.out (fun W' hs' => ⟨.bool true, by simp [results, Tryz.results5, go_sem, (hFin.out W' hs').1], rfl, (hFin.out W' hs').2⟩)
 | true =>
 obtain ⟨N, rfl⟩ : ∃ N : Nat, n = (N : Int) := ⟨n.toNat, by
  unfold rightG at hrg
  simp only [Bool.and_eq_true, decide_eq_true_eq] at hrg
  omega⟩
 have hN12 : N ≤ 12 := by
  have h2 := hrg
  unfold rightG at h2
  simp only [Bool.and_eq_true, decide_eq_true_eq] at h2
  omega
 obtain ⟨ys, hys, hy1, hy2, hy3⟩ := needsG_nats hrg a
 have HRt := Lib.hid hrg
 have HY1 := Lib.hid hy1
 have HY2 := Lib.hid hy2
 have HY3 := Lib.hid hy3
 clear p4 hy1 hy2 hy3 hn12
 go_upto_region 12 with fail
 have hr10 : (w6.alloc (.cells #[.int .i64 0] 3)).heap[w6.heap.size]? = some (.cells #[.int .i64 0] 3 (0, 0)) := heapNew rfl
 have hb7 : Below w6.heap.size w6 (w6.alloc (.cells #[.int .i64 0] 3)) := belowA (Below.refl _ _) _
 have HB7 := Lib.hid (HB6.out.trans (hb7.mono hz6))
 generalize w6.alloc (.cells #[.int .i64 0] 3) = w7 at *
 clear f0 f1 f2 hrg
 obtain ⟨p0, p1, p2, p3, p4⟩ := HKit.out w7 HB7.out
 obtain ⟨f0, f1⟩ := facts2 p0
 have f2 : w7.cell? ⟨w.heap.size + 1, 0, none⟩ = some (.int .i64 a) := (cell_of_row _ _ 0 _ _ _ p1).trans rfl
 have hgn := (Array.getElem?_eq_some_iff.1 hr10).1
 clear p0 p1 p2 p3 p4 hb7
 go_wp2_with fail
 refine (needs_any (N : Int) A m c a w7).mono ?_
 rintro e w8 ⟨rfl, hw8⟩
 have hb8 : Below w7.heap.size w7 w8 := by rw [hw8]; exact belowA (belowA (Below.refl _ _) _) _
 have hg1 : w8.heap[w7.heap.size]? = some (.cells #[.int .i64 (N : Int), .slice A m c] 31 (0, 0)) := by rw [hw8]; exact heapOld (heapNew rfl)
 have hg2 : w8.heap[w7.heap.size + 1]? = some (.cells #[.int .i64 a] 3 (0, 0)) := by rw [hw8]; exact heapNew (by simp)
 have HB8 := Lib.hid (HB7.out.trans (hb8.mono HB7.out.size))
 have hz8 := HB8.out.size
 have hr8 := (hb8.block _ hgn).trans hr10
 have hgn8 := (Array.getElem?_eq_some_iff.1 hr8).1
 obtain ⟨gn, Hgn⟩ : ∃ gn, Hid (gn = w6.heap.size) := ⟨_, rfl⟩
 rw [← Hgn.out] at hgn hr8 hr10 hgn8 hz6 ⊢
 have HQ := Lib.hid (needs_seq (HSl0.out w (Below.refl _ _)) (HKit.out w8 HB8.out).2.2.2.2 hg1 hg2 [gn] (by simp; omega) (by simp; omega) (fun b hb => by rw [List.mem_singleton.1 hb]; omega))
 rw [hys] at HQ
 have HR8 := Lib.hid hr8
 clear hw8 f0 f1 f2 hg1 hg2 hys hb8 hr10 hr8 hgn
 go_wp2_with fail
 refine (wpIn_wide (n := 8)).1 (range_law2 (hg := rfl) (eg := enters_of Tryz.func48 (by kernel_rfl) rfl) (hseq := HQ.out) (hb0 := Below.refl _ _) ?hS (hps := fun _ => rfl)
  (I := fun N' pre V => ∃ prN : List Nat, pre = prN.map (fun y : Nat => (y : Int)) ∧ nextQ prN ≤ N ∧ V.heap[gn]? = some (.cells #[.int .i64 (nextQ prN : Int)] 3 (0, 0)) ∧ Below w5.heap.size w5 V) (Ix := fun _ _ _ _ => False) ?hI ?hIx ?h0 ?round ?done ?stop)
 case hS => intro b hb; rw [List.mem_singleton.1 hb]; exact hgn8
 case hI =>
  rintro N' pre V V' ⟨prN, h1, h2, h3, h4⟩ hs'
  exact ⟨prN, h1, h2, hs'.row h3, h4.trans (hs'.below hz8 h4.size)⟩
 case hIx => exact fun _ _ _ _ _ h _ => h
 case h0 => exact fun N' V hs' _ _ => ⟨[], rfl, Nat.zero_le _, hs'.row HR8.out, HB8.out.trans (hs'.below hz8 hz8)⟩
 case stop => exact fun _ _ _ _ _ h _ => h.elim
 case round =>
  rintro k N' pre x W0 W1 K ⟨prN, rfl, h2, h3, h4⟩ hs' hN hN2 hW01 hx hK
  obtain ⟨yn, post, rfl, hyp⟩ := pre_at hx
  obtain ⟨hq1, hq2, hq3, hq4⟩ := need_gap HY1.out HY2.out HY3.out hyp
  have HK := Lib.hid hK
  have HQ4 := Lib.hid hq4
  have HQ3 := Lib.hid hq3
  have hgW0 := (Array.getElem?_eq_some_iff.1 h3).1
  have hr1 := hs'.row h3
  have hb1 : Below w5.heap.size w5 W1 := h4.trans (hs'.below hz8 h4.size)
  clear hK hx hyp h3 h4 hs' HQ hq3 hq4
  rw [encI_one]
  gi_wp2
  refine HK.out _ _ (Below.refl _ _) (fun W2 hs2 hz2 => ?_)
  have hr2 := hs2.row hr1
  have hb2 : Below w5.heap.size w5 W2 := hb1.trans (hs2.below hz8 hb1.size)
  have HR2 := Lib.hid hr2
  have HB2 := Lib.hid hb2
  have HZ2 := Lib.hid hz2
  have hNW2 : N' ≤ W2.heap.size := by omega
  clear hs2 hz2 HK hr1 hb1 hr2 hb2
  gi_wp2_with fail
  gi_loopw [51] (fun _ wr => ∃ j : Nat, nextQ prN ≤ j ∧ j ≤ yn ∧ Hid (wr.heap[gn]? = some (.cells #[.int .i64 (j : Int)] 3 (0, 0))) ∧ Hid (Below w5.heap.size w5 wr) ∧ Hid (Out [gn] W2 wr)) (fun _ wr => N - (intOf ((wr.cell? ⟨gn, 0, none⟩).getD undef)).toNat)
  case atStart => exact ⟨nextQ prN, Nat.le_refl _, hq1, HR2, HB2, Out.refl _ _⟩
  case round =>
   obtain ⟨j, hj1, hj2, HRj, HBj, HOj⟩ := hrel
   obtain ⟨p0, p1, p2, p3, p4⟩ := HKit.out wr HBj.out
   have f2 : wr.cell? ⟨w.heap.size + 1, 0, none⟩ = some (.int .i64 a) := (cell_of_row _ _ 0 _ _ _ p1).trans rfl
   obtain ⟨f3, f4⟩ := facts2 p3
   have cj : wr.cell? ⟨gn, 0, none⟩ = some (.int .i64 (j : Int)) := (cell_of_row _ _ 0 _ _ _ HRj.out).trans rfl
   have j1 : (j : Int) < (N : Int) := by omega
   have HH := Lib.hid (refHas_any (N : Int) B m cB l a (j : Int) wr (HsB.out.keep HBj.out))
   have hgj := (Array.getElem?_eq_some_iff.1 HRj.out).1
   clear p0 p1 p2 p3 p4
   by_cases hjy : j = yn
   ·subst hjy
    rw [HQ3.out] at HH
    gi_wp2_with fail
    refine ⟨trivial, (fun h => by cases h), (CallsIn.inRound _ (callsIn_wide.2 HH.out)).mono ?_⟩
    rintro e w9 ⟨rfl, hb9⟩
    have h9 := HBj.out.trans (hb9.mono HBj.out.size)
    obtain ⟨p0, p1, p2, p3, p4⟩ := HKit.out w9 h9
    have hr9 := (hb9.block _ hgj).trans HRj.out
    have hO9 : Out [gn] W2 w9 := HOj.out.trans (Out.of_below hb9 _) (fun b hb _ => hb)
    clear f2 f3 f4 cj HH
    obtain ⟨f3, f4⟩ := facts2 p3
    have cj : w9.cell? ⟨gn, 0, none⟩ = some (.int .i64 (j : Int)) := (cell_of_row _ _ 0 _ _ _ hr9).trans rfl
    have fj : w9.frozen? ⟨gn, 0, none⟩ = false := frozen_of_row _ _ _ _ _ hr9
    have rn : ((j : Int) != (j : Int)) = false := by simp
    have j2 : ¬ (N : Int) ≤ (j : Int) := by omega
    have HR10 : Hid ((w9.setCell ⟨gn, 0, none⟩ (.int .i64 ((j : Int) + 1))).heap[gn]? = some (.cells #[.int .i64 ((j : Int) + 1)] 3 (0, 0))) := set_zero hr9
    have HB10 : Hid (Below w5.heap.size w5 (w9.setCell ⟨gn, 0, none⟩ (.int .i64 ((j : Int) + 1)))) := h9.setCell (by show w5.heap.size ≤ gn; omega) _
    have HT : Hid (Turn2 [gn] N' W0.heap.size W2 (w9.setCell ⟨gn, 0, none⟩ (.int .i64 ((j : Int) + 1)))) :=
     Turn2.of_out (T := [gn]) (hO9.trans (set_out w9 _ 0 _) (fun b hb _ => hb)) hNW2 (fun b hb _ => by rw [List.mem_singleton.1 hb]; exact ⟨.inl (by simp), hgW0⟩)
    clear p0 p1 p2 p3 p4 hb9 h9 hr9 hO9 HOj HRj
    gi_wp2_with fail
    refine ⟨HT.out, prN ++ [j], by simp, by rw [nextQ_snoc]; omega, ?_, HB10.out⟩
    rw [nextQ_snoc]
    exact HR10.out
   ·have hlt : j < yn := by omega
    rw [HQ4.out j hj1 hlt] at HH
    gi_wp2_with fail
    refine ⟨trivial, (fun h => by cases h), (CallsIn.inRound _ (callsIn_wide.2 HH.out)).mono ?_⟩
    rintro e w9 ⟨rfl, hb9⟩
    have h9 := HBj.out.trans (hb9.mono HBj.out.size)
    have hr9 := (hb9.block _ hgj).trans HRj.out
    have hO9 : Out [gn] W2 w9 := HOj.out.trans (Out.of_below hb9 _) (fun b hb _ => hb)
    clear f2 f3 f4 cj HH
    have cj : w9.cell? ⟨gn, 0, none⟩ = some (.int .i64 (j : Int)) := (cell_of_row _ _ 0 _ _ _ hr9).trans rfl
    have fj : w9.frozen? ⟨gn, 0, none⟩ = false := frozen_of_row _ _ _ _ _ hr9
    have HR10 : Hid ((w9.setCell ⟨gn, 0, none⟩ (.int .i64 ((j : Int) + 1))).heap[gn]? = some (.cells #[.int .i64 ((j : Int) + 1)] 3 (0, 0))) := set_zero hr9
    have HB10 : Hid (Below w5.heap.size w5 (w9.setCell ⟨gn, 0, none⟩ (.int .i64 ((j : Int) + 1)))) := h9.setCell (by show w5.heap.size ≤ gn; omega) _
    have HO10 : Hid (Out [gn] W2 (w9.setCell ⟨gn, 0, none⟩ (.int .i64 ((j : Int) + 1)))) := hO9.trans (set_out w9 _ 0 _) (fun b hb _ => hb)
    clear hb9 h9 hr9 hO9 HOj
    gi_wp2_with fail
    go_roundw
    case rel => exact ⟨j + 1, by omega, by omega, HR10, HB10, HO10⟩
    case measure =>
     have c1 := cell_of_row _ _ 0 _ _ _ HRj.out
     have c2 := cell_of_row _ _ 0 _ _ _ HR10.out
     rw [c1, c2]
     simp [intOf]
     omega
 case done =>
  rintro N' xs W hxs ⟨prN, h1, h2, h3, h4⟩ hD
  have hpy : prN = ys := (List.map_inj_right (fun x y h => by omega)).1 (h1.symm.trans hxs.out)
  rw [hpy] at h2 h3
  have HR := Lib.hid h3
  have HB := Lib.hid h4
  have HD := Lib.hid hD
  clear h1 h3 h4 hD hxs HQ HR8 hpy
  go_wp2_with fail
  go_loopw [75] (fun _ wr => ∃ j : Nat, nextQ ys ≤ j ∧ j ≤ N ∧ Hid (wr.heap[gn]? = some (.cells #[.int .i64 (j : Int)] 3 (0, 0))) ∧ Hid (wr.heap[w8.heap.size]? = some (.deferred (some []))) ∧ Hid (Below w5.heap.size w5 wr)) (fun _ wr => N - (intOf ((wr.cell? ⟨gn, 0, none⟩).getD undef)).toNat)
  case atStart => exact ⟨nextQ ys, Nat.le_refl _, h2, HR, HD, HB⟩
  case round =>
   clear HR HD HB
   obtain ⟨j, hj1, hj2, HRj, HDj, HBj⟩ := hrel
   obtain ⟨p0, p1, p2, p3, p4⟩ := HKit.out wr HBj.out
   obtain ⟨f0, f1⟩ := facts2 p0
   have f2 : wr.cell? ⟨w.heap.size + 1, 0, none⟩ = some (.int .i64 a) := (cell_of_row _ _ 0 _ _ _ p1).trans rfl
   obtain ⟨f3, f4⟩ := facts2 p3
   have cj : wr.cell? ⟨gn, 0, none⟩ = some (.int .i64 (j : Int)) := (cell_of_row _ _ 0 _ _ _ HRj.out).trans rfl
   have hgj := (Array.getElem?_eq_some_iff.1 HRj.out).1
   have hDl := (Array.getElem?_eq_some_iff.1 HDj.out).1
   by_cases hlt : j < N
   ·have j1 : (j : Int) < (N : Int) := by omega
    have HH := Lib.hid (refHas_any (N : Int) B m cB l a (j : Int) wr (HsB.out.keep HBj.out))
    rw [need_end HY1.out HY2.out j hj1] at HH
    clear p0 p1 p2 p3 p4
    go_wp2_with fail
    refine HH.out.mono ?_
    rintro e w9 ⟨rfl, hb9⟩
    have h9 := HBj.out.trans (hb9.mono HBj.out.size)
    have hr9 := (hb9.block _ hgj).trans HRj.out
    have hD9 := (hb9.block _ hDl).trans HDj.out
    clear f0 f1 f2 f3 f4 cj HH
    have cj : w9.cell? ⟨gn, 0, none⟩ = some (.int .i64 (j : Int)) := (cell_of_row _ _ 0 _ _ _ hr9).trans rfl
    have fj : w9.frozen? ⟨gn, 0, none⟩ = false := frozen_of_row _ _ _ _ _ hr9
    have HR10 : Hid ((w9.setCell ⟨gn, 0, none⟩ (.int .i64 ((j : Int) + 1))).heap[gn]? = some (.cells #[.int .i64 ((j : Int) + 1)] 3 (0, 0))) := set_zero hr9
    have HB10 : Hid (Below w5.heap.size w5 (w9.setCell ⟨gn, 0, none⟩ (.int .i64 ((j : Int) + 1)))) := h9.setCell (by show w5.heap.size ≤ gn; omega) _
    have HD10 : Hid ((w9.setCell ⟨gn, 0, none⟩ (.int .i64 ((j : Int) + 1))).heap[w8.heap.size]? = some (.deferred (some []))) := (World.heap_setCells_other' (by omega)).trans hD9
    clear hb9 h9 hr9 hD9
    go_wp2_with fail
    go_roundw
    case rel => exact ⟨j + 1, by omega, by omega, HR10, HD10, HB10⟩
    case measure =>
     have c1 := cell_of_row _ _ 0 _ _ _ HRj.out
     have c2 := cell_of_row _ _ 0 _ _ _ HR10.out
     rw [c1, c2]
     simp [intOf]
     omega
   have j1 : ¬ (j : Int) < (N : Int) := by omega
   have HPa := Lib.hid (pathB_any HRt.out (by omega) A m c a b wr (HSl0.out wr p4))
   clear p0 p1 p2 p3 p4
   go_wp2_with fail
   refine HPa.out.mono ?_
   rintro e w10 ⟨A12, c12, rfl, hs12, hb10⟩
   have h10 := HBj.out.trans (hb10.mono HBj.out.size)
   have hD10 := (hb10.block _ hDl).trans HDj.out
   clear f0 f1 f2 f3 f4 cj HPa
   obtain ⟨p0, p1, p2, p3, p4⟩ := HKit.out w10 h10
   have f2 : w10.cell? ⟨w.heap.size + 1, 0, none⟩ = some (.int .i64 a) := (cell_of_row _ _ 0 _ _ _ p1).trans rfl
   obtain ⟨f3, f4⟩ := facts2 p3
   have hDl10 := (Array.getElem?_eq_some_iff.1 hD10).1
   have HPb := Lib.hid (refPathB_any HRt.out (by omega) B m cB a b w10 (HsB.out.keep h10))
   have HB10 := Lib.hid h10
   have HD10 := Lib.hid hD10
   have H12a := Lib.hid hs12
   clear p0 p1 p2 p3 p4 h10 hD10 hb10 hs12 HRj HDj HBj hDl hgj j1
   go_wp2_with fail
   refine HPb.out.mono ?_
   rintro e w11 ⟨A14, c14, rfl, hs14, hb11⟩
   have HB11 := Lib.hid (HB10.out.trans (hb11.mono HB10.out.size))
   have HD11 := Lib.hid ((hb11.block _ hDl10).trans HD10.out)
   have H12 := Lib.hid (H12a.out.keep hb11)
   have H14 := Lib.hid hs14
   have hDl := (Array.getElem?_eq_some_iff.1 HD11.out).1
   clear f2 f3 f4 HPb hb11 hs14 H12a HD10 HB10 hDl10
   have HFs : Hid (∀ W, Below w11.heap.size w11 W → (W.cell? ⟨w.heap.size, 0, none⟩ = some (.int .i64 (N : Int)) ∧ W.cell? ⟨w.heap.size, 1, none⟩ = some (.slice A m c)) ∧ W.cell? ⟨w.heap.size + 1, 0, none⟩ = some (.int .i64 a) ∧ W.cell? ⟨gd, 0, none⟩ = some (.int .i64 (N : Int)) ∧ W.cell? ⟨gd, 1, none⟩ = some (.slice B m cB)) := fun W hW => by
    obtain ⟨p0, p1, p2, p3, p4⟩ := HKit.out W (HB11.out.trans (hW.mono HB11.out.size))
    exact ⟨facts2 p0, (cell_of_row _ _ 0 _ _ _ p1).trans rfl, facts2 p3⟩
   obtain ⟨kr, Hkr⟩ : ∃ kr, Hid (kr = (reachR N l a).length) := ⟨_, rfl⟩
   obtain ⟨RL, HRL⟩ : ∃ RL, Hid (RL = (reachR N l a).map (fun x : Nat => (x : Int))) := ⟨_, rfl⟩
   have HRb : Hid (∀ W, Below w11.heap.size w11 W → Calls Tryz.prog 25 #[graphV (N : Int) A m c, .int .i64 a] W (fun e w' => ∃ A' c', e = .returned (.slice A' kr c') ∧ SliceIs Enc.int w' w'.heap.size A' kr c' RL ∧ Below W.heap.size W w')) := fun W hW => by
    rw [Hkr.out, HRL.out]
    exact reachB_any HRt.out (by omega) A m c a W (HSl0.out W (HKit.out W (HB11.out.trans (hW.mono HB11.out.size))).2.2.2.2)
   have HRd : Hid (∀ W, Below w11.heap.size w11 W → Calls Tryz.prog 29 #[.agg #[.int .i64 (N : Int), .slice B m cB], .int .i64 a] W (fun e w' => ∃ A' c', e = .returned (.slice A' kr c') ∧ SliceIs Enc.int w' w'.heap.size A' kr c' RL ∧ Below W.heap.size W w')) := fun W hW => by
    rw [Hkr.out, HRL.out]
    exact refReachedB_any (by omega) B m cB a W (HsB.out.keep (HB11.out.trans (hW.mono HB11.out.size)))
   obtain ⟨k, Hk⟩ : ∃ k, Hid (k = (pathR N l a b).length) := ⟨_, rfl⟩
   rw [← Hk.out] at H12 H14 ⊢
   have hk0 : decide ((0 : Int) < (k : Int)) = decide (0 < k) := by simp
   go_wp2_with fail
   refine drawnHD mixed 19 115 [96, 97, 98, 99, 100, 101, 102, 103, 104, 105, 106, 107, 108, 109, 110, 111, 112, 113, 114] [some (.bool (decide (0 < k))), some (.slice A14 k c14), some (.int .i64 (k : Int)), some (.bool (decide (0 < k))), some (.bool true), some (.bool true), some (.slice A12 k c12), some (.slice A14 k c14), some (.bool true), some (.bool true), some (.bool true), some (graphV (N : Int) A m c), some (.int .i64 a), none, some (.agg #[.int .i64 (N : Int), .slice B m cB]), some (.int .i64 a), none, some (.bool true), some (.bool true)] (dpF kr RL) rfl (by kernel_rfl) (by kernel_rfl) rfl (fun i v W W' h hb => dpF_keep h hb) ?_ ?_
   ·intro i o2 a2 W hi ho hd hold hG hw
    have hr3 : a2.tmps[3]? = some (.pointer (some ⟨w.heap.size, 0, none⟩)) := hold 3 (by kernel_rfl)
    have hr4 : a2.tmps[4]? = some (.pointer (some ⟨w.heap.size + 1, 0, none⟩)) := hold 4 (by kernel_rfl)
    have hr7 : a2.tmps[7]? = some (.pointer (some ⟨gd, 0, none⟩)) := hold 7 (by kernel_rfl)
    have hr12 : a2.tmps[12]? = some (.slice A12 k c12) := hold 12 (by kernel_rfl)
    have hr13 : a2.tmps[13]? = some (.bool (decide (0 < k))) := hold 13 (by kernel_rfl)
    have hr14 : a2.tmps[14]? = some (.slice A14 k c14) := hold 14 (by kernel_rfl)
    clear hold
    match i, hi, ho with
    | 0, _, ho =>
     injection ho with ho; subst ho
     exact .inl ⟨rfl, op_val _ (by simp [execOp, Act.eval, hr13, go_sem]) ⟨_, rfl, Below.refl _ _, rfl⟩⟩
    | 1, _, ho =>
     injection ho with ho; subst ho
     exact .inl ⟨rfl, op_val _ (by simp [execOp, Act.eval, hr14, go_sem]) ⟨_, rfl, Below.refl _ _, rfl⟩⟩
    | 2, _, ho =>
     obtain ⟨v1, h1, e1⟩ := hw 1 97 (by kernel_rfl)
     obtain rfl : v1 = .slice A14 k c14 := e1
     injection ho with ho; subst ho
     exact .inl ⟨rfl, op_val _ (by simp [execOp, Act.eval, h1, go_sem]) ⟨_, rfl, Below.refl _ _, rfl⟩⟩
    | 3, _, ho =>
     obtain ⟨v2, h2, e2⟩ := hw 2 98 (by kernel_rfl)
     obtain rfl : v2 = .int .i64 (k : Int) := e2
     injection ho with ho; subst ho
     exact .inl ⟨rfl, op_val _ (by simp [execOp, Act.eval, h2, go_sem]) ⟨_, rfl, Below.refl _ _, rfl⟩⟩
    | 4, _, ho =>
     obtain ⟨v0, h0, e0⟩ := hw 0 96 (by kernel_rfl)
     obtain rfl : v0 = .bool (decide (0 < k)) := e0
     obtain ⟨v3, h3, e3⟩ := hw 3 99 (by kernel_rfl)
     obtain rfl : v3 = .bool (decide (0 < k)) := e3
     injection ho with ho; subst ho
     exact .inl ⟨rfl, op_val _ (by simp [execOp, Act.eval, h0, h3, go_sem]) ⟨_, rfl, Below.refl _ _, rfl⟩⟩
    | 5, _, ho =>
     obtain ⟨v4, h4, e4⟩ := hw 4 100 (by kernel_rfl)
     obtain rfl : v4 = .bool true := e4
     injection ho with ho; subst ho
     exact .inl ⟨rfl, op_val _ (by simp [execOp, Act.eval, h4, go_sem]) ⟨_, rfl, Below.refl _ _, rfl⟩⟩
    | 6, _, ho =>
     obtain ⟨v5, h5, e5⟩ := hw 5 101 (by kernel_rfl)
     obtain rfl : v5 = .bool true := e5
     injection ho with ho; subst ho
     exact .inl ⟨((wanted_of rfl (by kernel_rfl) h5).trans rfl), op_val _ (by simp [execOp, Act.eval, hr12, go_sem]) ⟨_, rfl, Below.refl _ _, rfl⟩⟩
    | 7, _, ho =>
     obtain ⟨v5, h5, e5⟩ := hw 5 101 (by kernel_rfl)
     obtain rfl : v5 = .bool true := e5
     injection ho with ho; subst ho
     exact .inl ⟨((wanted_of rfl (by kernel_rfl) h5).trans rfl), op_val _ (by simp [execOp, Act.eval, hr14, go_sem]) ⟨_, rfl, Below.refl _ _, rfl⟩⟩
    | 8, _, ho =>
     obtain ⟨v6, h6, e6⟩ := hw 6 102 (by kernel_rfl)
     obtain rfl : v6 = .slice A12 k c12 := e6
     obtain ⟨v7, h7, e7⟩ := hw 7 103 (by kernel_rfl)
     obtain rfl : v7 = .slice A14 k c14 := e7
     obtain ⟨v5, h5, e5⟩ := hw 5 101 (by kernel_rfl)
     obtain rfl : v5 = .bool true := e5
     injection ho with ho; subst ho
     refine .inl ⟨((wanted_of rfl (by kernel_rfl) h5).trans rfl), op_call 28 _ rfl rfl #[.slice A12 k c12, .slice A14 k c14] (by simp [Act.eval, h6, h7]) _ Tryz.func28 (by kernel_rfl) (by kernel_rfl) ((ints_eq _ _ _ _ _ _ _ W (H12.out.keep hG) (H14.out.keep hG)).mono ?_)⟩
     rintro r w' ⟨rfl, hb⟩
     exact ⟨_, rfl, _, rfl, hb, rfl⟩
    | 9, _, ho =>
     obtain ⟨v5, h5, e5⟩ := hw 5 101 (by kernel_rfl)
     obtain rfl : v5 = .bool true := e5
     obtain ⟨v8, h8, e8⟩ := hw 8 104 (by kernel_rfl)
     obtain rfl : v8 = .bool true := e8
     injection ho with ho; subst ho
     exact .inl ⟨rfl, op_val _ (by simp [execOp, Act.eval, h5, h8, go_sem]) ⟨_, rfl, Below.refl _ _, rfl⟩⟩
    | 10, _, ho =>
     obtain ⟨v9, h9, e9⟩ := hw 9 105 (by kernel_rfl)
     obtain rfl : v9 = .bool true := e9
     injection ho with ho; subst ho
     exact .inl ⟨rfl, op_val _ (by simp [execOp, Act.eval, h9, go_sem]) ⟨_, rfl, Below.refl _ _, rfl⟩⟩
    | 11, _, ho =>
     obtain ⟨v10, h10, e10⟩ := hw 10 106 (by kernel_rfl)
     obtain rfl : v10 = .bool true := e10
     obtain ⟨⟨g0, g1⟩, g2, g3, g4⟩ := HFs.out W hG
     injection ho with ho; subst ho
     exact .inl ⟨((wanted_of rfl (by kernel_rfl) h10).trans rfl), op_val _ (by simp [execOp, Act.eval, hr3, go_sem, graphV, g0, g1]) ⟨_, rfl, Below.refl _ _, rfl⟩⟩
    | 12, _, ho =>
     obtain ⟨v10, h10, e10⟩ := hw 10 106 (by kernel_rfl)
     obtain rfl : v10 = .bool true := e10
     obtain ⟨⟨g0, g1⟩, g2, g3, g4⟩ := HFs.out W hG
     injection ho with ho; subst ho
     exact .inl ⟨((wanted_of rfl (by kernel_rfl) h10).trans rfl), op_val _ (by simp [execOp, Act.eval, hr4, go_sem, g2]) ⟨_, rfl, Below.refl _ _, rfl⟩⟩
    | 13, _, ho =>
     obtain ⟨v11, h11, e11⟩ := hw 11 107 (by kernel_rfl)
     obtain rfl : v11 = graphV (N : Int) A m c := e11
     obtain ⟨v12, h12, e12⟩ := hw 12 108 (by kernel_rfl)
     obtain rfl : v12 = .int .i64 a := e12
     obtain ⟨v10, h10, e10⟩ := hw 10 106 (by kernel_rfl)
     obtain rfl : v10 = .bool true := e10
     injection ho with ho; subst ho
     refine .inl ⟨((wanted_of rfl (by kernel_rfl) h10).trans rfl), op_call 25 _ rfl rfl #[graphV (N : Int) A m c, .int .i64 a] (by simp [Act.eval, h11, h12]) _ Tryz.func25 (by kernel_rfl) (by kernel_rfl) ((HRb.out W hG).mono ?_)⟩
     rintro r w' ⟨A', c', rfl, hs, hb⟩
     exact ⟨_, rfl, _, rfl, hb, A', c', rfl, hs⟩
    | 14, _, ho =>
     obtain ⟨v10, h10, e10⟩ := hw 10 106 (by kernel_rfl)
     obtain rfl : v10 = .bool true := e10
     obtain ⟨⟨g0, g1⟩, g2, g3, g4⟩ := HFs.out W hG
     injection ho with ho; subst ho
     exact .inl ⟨((wanted_of rfl (by kernel_rfl) h10).trans rfl), op_val _ (by simp [execOp, Act.eval, hr7, go_sem, g3, g4]) ⟨_, rfl, Below.refl _ _, rfl⟩⟩
    | 15, _, ho =>
     obtain ⟨v10, h10, e10⟩ := hw 10 106 (by kernel_rfl)
     obtain rfl : v10 = .bool true := e10
     obtain ⟨⟨g0, g1⟩, g2, g3, g4⟩ := HFs.out W hG
     injection ho with ho; subst ho
     exact .inl ⟨((wanted_of rfl (by kernel_rfl) h10).trans rfl), op_val _ (by simp [execOp, Act.eval, hr4, go_sem, g2]) ⟨_, rfl, Below.refl _ _, rfl⟩⟩
    | 16, _, ho =>
     obtain ⟨v14, h14, e14⟩ := hw 14 110 (by kernel_rfl)
     obtain rfl : v14 = .agg #[.int .i64 (N : Int), .slice B m cB] := e14
     obtain ⟨v15, h15, e15⟩ := hw 15 111 (by kernel_rfl)
     obtain rfl : v15 = .int .i64 a := e15
     obtain ⟨v10, h10, e10⟩ := hw 10 106 (by kernel_rfl)
     obtain rfl : v10 = .bool true := e10
     injection ho with ho; subst ho
     refine .inl ⟨((wanted_of rfl (by kernel_rfl) h10).trans rfl), op_call 29 _ rfl rfl #[.agg #[.int .i64 (N : Int), .slice B m cB], .int .i64 a] (by simp [Act.eval, h14, h15]) _ Tryz.func29 (by kernel_rfl) (by kernel_rfl) ((HRd.out W hG).mono ?_)⟩
     rintro r w' ⟨A', c', rfl, hs, hb⟩
     exact ⟨_, rfl, _, rfl, hb, A', c', rfl, hs⟩
    | 17, _, ho =>
     obtain ⟨v13, h13, A9, c9, rfl, hs9⟩ := hw 13 109 (by kernel_rfl)
     obtain ⟨v16, h16, A8, c8, rfl, hs8⟩ := hw 16 112 (by kernel_rfl)
     obtain ⟨v10, h10, e10⟩ := hw 10 106 (by kernel_rfl)
     obtain rfl : v10 = .bool true := e10
     injection ho with ho; subst ho
     refine .inl ⟨((wanted_of rfl (by kernel_rfl) h10).trans rfl), op_call 28 _ rfl rfl #[.slice A9 kr c9, .slice A8 kr c8] (by simp [Act.eval, h13, h16]) _ Tryz.func28 (by kernel_rfl) (by kernel_rfl) ((ints_eq _ _ _ _ _ _ _ W hs9 hs8).mono ?_)⟩
     rintro r w' ⟨rfl, hb⟩
     exact ⟨_, rfl, _, rfl, hb, rfl⟩
    | 18, _, ho =>
     obtain ⟨v10, h10, e10⟩ := hw 10 106 (by kernel_rfl)
     obtain rfl : v10 = .bool true := e10
     obtain ⟨v17, h17, e17⟩ := hw 17 113 (by kernel_rfl)
     obtain rfl : v17 = .bool true := e17
     injection ho with ho; subst ho
     exact .inl ⟨rfl, op_val _ (by simp [execOp, Act.eval, h10, h17, go_sem]) ⟨_, rfl, Below.refl _ _, rfl⟩⟩
    | n_ + 19, hi, _ => omega
   ·intro o2 u W ho hG hw
    have e0 : u 114 = .bool true := hw 18 114 (by decide) (by kernel_rfl)
    obtain ⟨p0, p1, p2, p3, p4⟩ := HKit.out W (HB11.out.trans (hG.mono HB11.out.size))
    have hDw := (hG.block _ hDl).trans HD11.out
    have cz : W.cell? ⟨w.heap.size + 1 + 1, 0, none⟩ = some (.bool false) := (cell_of_row _ _ 0 _ _ _ p2).trans rfl
    have fz : W.frozen? ⟨w.heap.size + 1 + 1, 0, none⟩ = false := frozen_of_row _ _ _ _ _ p2
    have hFin : Hid (∀ V, Soft w8.heap.size (W.setCell ⟨w.heap.size + 1 + 1, 0, none⟩ (.bool true)) V → V.cell? ⟨w.heap.size + 1 + 1, 0, none⟩ = some (.bool true) ∧ Below w.heap.size w V) := fun V hV => by
     have v2 := set_zero (v := .bool true) p2
     refine ⟨(cell_of_row _ _ 0 _ _ _ (hV.row v2)).trans rfl, ?_⟩
     have hb : Below w.heap.size w (W.setCell ⟨w.heap.size + 1 + 1, 0, none⟩ (.bool true)) := p4.setCell (by show w.heap.size ≤ w.heap.size + 1 + 1; omega) _
     exact hb.trans (hV.below (by omega) hb.size)
    have HMk : Hid (MarksOk w8.heap.size [w8.heap.size] (W.setCell ⟨w.heap.size + 1 + 1, 0, none⟩ (.bool true))) := by
     refine ⟨by simp, fun b hb => ?_⟩
     rw [List.mem_singleton.1 hb]
     exact ⟨Nat.le_refl _, (World.heap_setCells_other' (by omega)).trans hDw⟩
    have hop : o2.op = .store 4 (.tmp 6) (.tmp 114) := by injection ho with ho; subst ho; rfl
    have hds : o2.dst = none := by injection ho with ho; subst ho; rfl
    clear ho p0 p1 p2 p3 p4 hDw
    simp only [List.foldl_cons, List.foldl_nil, Act.put, List.setIfInBounds_toArray, List.set_cons_zero, List.set_cons_succ]
    rw [e0]
    clear hw hG e0
    refine op_skip (w' := W.setCell ⟨w.heap.size + 1 + 1, 0, none⟩ (.bool true)) (by simp [execOp, hop, Act.eval, go_sem, cz, fz]) ?_
    rw [hds]
    simp only [Act.put]
    clear hop hds cz fz HFs HRb HRd H12 H14
    go_wp2_with fail
    exact leaves_marks [w8.heap.size] _ HMk.out (fun W' hs' => ⟨.bool true, by simp [results, Tryz.results5, go_sem, (hFin.out W' hs').1], rfl, (hFin.out W' hs').2⟩)
end Go.Proofs.YtgphngjniplonaaGreatDoor

namespace Go.Proofs.YtgphngjniplonaaGreatDoor
open Go.ChangeShapes Go.WideShapes Go.ChangeAt Go.RowKit
set_option linter.unusedVariables false
theorem params : Tryz.f5.params = #[31, 3, 3] := by kernel_rfl
theorem lifted (os : Os) (started : os.Started) (H : Type) (enc : TypeId × Value → H) :
  ReturnsInHanded {} Tryz.checked os 5 .any (fun w args => (Rows.depsPathsSpec.pre enc Tryz.prog Tryz.f5 Rows.depsPathsRow.domain false w args ∧ laidMet Tryz.prog laidP w) ∧ sizedMet enc Tryz.prog Tryz.f5 (OpenSpec.ofChange Rows.depsPathsSpec) false w args)
   (Rows.depsPathsSpec.post enc Tryz.prog Tryz.f5 false true false false) := by
 refine returnsInHanded_of_change_and (C := Tryz.checked) (X := fun w _ => laidMet Tryz.prog laidP w) (fun _ _ _ hh h => h.of_heap hh) own started (by kernel_rfl) Tryz.func5
  (ChangeSpec.witness_at (enc := enc) (C := Tryz.checked) (os := os) (X := fun w _ => laidMet Tryz.prog laidP w) false (laidWorldP os) #[.agg #[.int .i64 0, .slice none 0 0], .int .i64 0, .int .i64 0] 8 rfl (by kernel_rfl) (by kernel_rfl) (by kernel_rfl) (by kernel_rfl) (by kernel_rfl) (laidWorldP_met os _)) ?_
 intro W base args ds gs before hval0 hW hcnd hsz0 hL _
 have hval : ∀ (j : Nat) t v, Tryz.f5.params[j]? = some t → args[j]? = some v → Value.okWide Tryz.prog W .any base t v := hval0
 have hW' := hW
 obtain ⟨p, q, hA0, hV, rfl, hfz, hnd⟩ := hW
 have hA : DataW.TrodAll enc Tryz.prog W 0 (fun _ => true) true Tryz.f5.params.toList args.toList ds p := hA0
 have hsz : (DataW.weightsEach Tryz.prog (Tryz.f5.params.toList ++ Rows.depsPathsSpec.plain.varTypes Tryz.prog) (ds ++ gs)).all (· ≤ reachBytes) = true := hsz0
 rw [params] at hA hval hsz
 obtain ⟨v0, vs0, d0, ds0, p0, q0, hargs, rfl, rfl, h0, r0⟩ := trodAll_cons hA
 obtain ⟨v1, vs1, d1, ds1, p1, q1, rfl, rfl, rfl, h1, r1⟩ := trodAll_cons r0
 obtain ⟨v2, vs2, d2, ds2, p2, q2, rfl, rfl, rfl, h2, r2⟩ := trodAll_cons r1
 obtain ⟨rfl, rfl, rfl⟩ := trodAll_nil r2
 obtain rfl : args = #[v0, v1, v2] := by cases args; simp_all
 obtain ⟨rfl, rfl⟩ := trodVars_none hV
 have hwt : ∀ (j : Nat) (t : TypeId) (d : DataW H), [31, 3, 3][j]? = some t → [d0, d1, d2][j]? = some d → ∀ n ∈ d.weights Tryz.prog t, n ≤ reachBytes := fun j t d ht hd n hn => by
  have := List.all_eq_true.1 hsz n (DataW.weights_mem_each (j := j) (by rw [List.getElem?_append_left (by simpa using (List.getElem?_eq_some_iff.1 ht).1)]; exact ht) (by rw [List.getElem?_append_left (by simpa using (List.getElem?_eq_some_iff.1 hd).1)]; exact hd) n hn)
  simpa using this
 have lt0 : ∀ x ∈ p0, x.block < W.heap.size := by obtain ⟨m, hm⟩ := h0; exact DataW.trod_lt m _ _ _ hm
 have lt1 : ∀ x ∈ p1, x.block < W.heap.size := by obtain ⟨m, hm⟩ := h1; exact DataW.trod_lt m _ _ _ hm
 have lt2 : ∀ x ∈ p2, x.block < W.heap.size := by obtain ⟨m, hm⟩ := h2; exact DataW.trod_lt m _ _ _ hm
 obtain ⟨a0n, A0, n0, c0, a0, rfl, ok0, s0⟩ := open_graph (hval 0 31 v0 rfl rfl) h0 (hwt 0 _ _ rfl rfl)
 obtain ⟨a1, rfl, oka1⟩ := open_int' (k := .i64) (by kernel_rfl) (hval 1 3 v1 rfl rfl) h1
 obtain ⟨a2, rfl, oka2⟩ := open_int' (k := .i64) (by kernel_rfl) (hval 2 3 v2 rfl rfl) h2
 clear hA0 hval0
 refine (depsPaths_walk a0n a1 a2 A0 n0 c0 a0 W s0 (parW_of_laidP hL)).mono fun e W' ⟨he, bel⟩ => ?_
 subst he
 exact ⟨_, rfl, _, _, _, [], _, [], hW', trodAll_mk1 (shut_bool u_bool _),
  (trodAll_cons_mk (Below.trod laidOut (by kernel_rfl) (of_decide_eq_true (by kernel_rfl)) h0 bel lt0)
   (trodAll_cons_mk (Below.trod laidOut (by kernel_rfl) (of_decide_eq_true (by kernel_rfl)) h1 bel lt1)
   (trodAll_cons_mk (Below.trod laidOut (by kernel_rfl) (of_decide_eq_true (by kernel_rfl)) h2 bel lt2)
   trodAll_mk0))), rfl, bel.frame _, fun h => by cases h⟩
end Go.Proofs.YtgphngjniplonaaGreatDoor

namespace Go.Proofs.YtgphngjniplonaaGreatDoor
theorem closedF : joinedFacts Tryz.prog 5 Tryz.f5 Rows.depsPathsSpec Rows.depsPathsRow = true := by
 unfold joinedFacts
 simp only [Bool.and_eq_true]
 repeat' (with_reducible refine And.intro ?_ ?_)
 all_goals (as_aux_lemma => kernel_rfl)
end Go.Proofs.YtgphngjniplonaaGreatDoor
