/- SccNodes: the walk. -/
import Derived.Test.YtdbpbchhkdconaaScIs
import Derived.Test.YtdbpbchhkdconaaScLc
namespace Go.Proofs.Ytdbpbchhkdconaa
open Go.RowKit

theorem run_neq_redge (x : GEdge) (w : World) : (binOp .neq 45 x.v x.v).run Try.prog w = .ok (.bool false) w := by
  rw [run_neq_struct, run_equalIn_agg (ht := by kernel_rfl) (hp := by kernel_rfl)]
  simp [go_sem]
set_option maxRecDepth 100000 in
set_option maxHeartbeats 2000000 in
theorem round_bad (n : Int) (A : Option Addr) (m c : Nat) (l : List GEdge) (a : Int) (w : World) (h : SliceIs Enc.edge w w.heap.size A m c l) (hr : rightG n l = false) :
    Calls Try.prog 19 #[graphV n A m c, .int .i64 a] w (RetBool false w) := by
  have hyu : undef = Value.tuple #[] := rfl
  have hb0 : Below w.heap.size w ((w.alloc (.cells #[.int .i64 n, .slice A m c] 24)).alloc (.cells #[.int .i64 a] 3)) := belowA (belowA (Below.refl _ _) _) _
  have c0 : ((w.alloc (.cells #[.int .i64 n, .slice A m c] 24)).alloc (.cells #[.int .i64 a] 3)).cell? ⟨w.heap.size, 0, none⟩ = some (.int .i64 n) := cellA ((cell_of_row _ _ 0 _ _ _ (heapNew (w := w) rfl)).trans rfl)
  have c1 : ((w.alloc (.cells #[.int .i64 n, .slice A m c] 24)).alloc (.cells #[.int .i64 a] 3)).cell? ⟨w.heap.size, 1, none⟩ = some (.slice A m c) := cellA ((cell_of_row _ _ 1 _ _ _ (heapNew (w := w) rfl)).trans rfl)
  have c2 : ((w.alloc (.cells #[.int .i64 n, .slice A m c] 24)).alloc (.cells #[.int .i64 a] 3)).cell? ⟨w.heap.size + 1, 0, none⟩ = some (.int .i64 a) := (cell_of_row _ _ 0 _ _ _ (heapNew (by simp))).trans rfl
  have HP := Lib.hid (places_bad n A m c l _ (h.mono hb0.size hb0.block) hr)
  have HB0 := Lib.hid hb0
  clear h hb0 hr
  go_enter Try.func19, Try.ntmps19
  go_wp2_with fail
  refine HP.out.mono ?_
  rintro e w1 ⟨rfl, hb1⟩
  have HB2 : Hid (Below w.heap.size w (w1.alloc (.cells #[.slice none 0 0] 29))) := (HB0.out.trans (hb1.mono HB0.out.size)).alloc (by have := HB0.out.size; have := hb1.size; omega) _
  have d0 : (w1.alloc (.cells #[.slice none 0 0] 29)).cell? ⟨w1.heap.size, 0, none⟩ = some (.slice none 0 0) := (cell_of_row _ _ 0 _ _ _ (heapNew (w := w1) rfl)).trans rfl
  have d3 : (w1.alloc (.cells #[.slice none 0 0] 29)).cell? ⟨w.heap.size + 1, 0, none⟩ = some (.int .i64 a) := cellA (below_cell hb1 c2)
  clear hb1 c0 c1 c2
  by_cases hn0 : a < 0
  · have i0 : ¬ (0 : Int) ≤ a := by omega
    go_wp2_with fail
    go_ret
    exact ⟨by simp, HB2.out⟩
  · have i0 : (0 : Int) ≤ a := by omega
    have i1 : ¬ a < 0 := by omega
    go_wp2_with fail
    go_ret
    exact ⟨by simp, HB2.out⟩

set_option maxRecDepth 100000 in
set_option maxHeartbeats 8000000 in
theorem sccNodes_walk (n : Int) (A : Option Addr) (m c : Nat) (l : List GEdge) (a b : Int) (w : World) (h : SliceIs Enc.edge w w.heap.size A m c l) :
    Calls Try.prog 5 #[graphV n A m c, .int .i64 a, .int .i64 b] w (RetBool true w) := by
  have mixed : Try.prog.follows .mixedOrders = true := by kernel_rfl
  obtain ⟨hb0, c0, c1⟩ := boxG n A m c w
  have hg0 : (w.alloc (.cells #[.int .i64 n, .slice A m c] 24)).heap[w.heap.size]? = some (.cells #[.int .i64 n, .slice A m c] 24 (0, 0)) := heapNew rfl
  have HA := Lib.hid (alive11_any (w.alloc (.cells #[.int .i64 n, .slice A m c] 24)))
  have HB0 := Lib.hid hb0
  have HG0 := Lib.hid hg0
  have HS := Lib.hid (fun (W : World) (hW : Below w.heap.size w W) => h.mono hW.size hW.block)
  have Hlen := Lib.hid h.1
  have HLg := Lib.hid (fun W => large_any n A m c W)
  have hmb := h.bound
  clear h hb0 hg0
  go_enter Try.func5, Try.ntmps5
  go_wp2_with fail
  refine HA.out.mono ?_
  rintro e w1 ⟨rfl, hb1⟩
  have HB1 : Hid (Below w.heap.size w w1) := HB0.out.trans (hb1.mono HB0.out.size)
  have HG1 : Hid (w1.heap[w.heap.size]? = some (.cells #[.int .i64 n, .slice A m c] 24 (0, 0))) := (hb1.block _ (by simp)).trans HG0.out
  have d0 : w1.cell? ⟨w.heap.size, 0, none⟩ = some (.int .i64 n) := below_cell hb1 c0
  have d1 : w1.cell? ⟨w.heap.size, 1, none⟩ = some (.slice A m c) := below_cell hb1 c1
  clear hb1 c0 c1 HB0 HG0 HA
  go_wp2_with fail
  refine (HLg.out w1).mono ?_
  rintro e w2 ⟨rfl, hb2⟩
  have HB2 : Hid (Below w.heap.size w w2) := HB1.out.trans (hb2.mono HB1.out.size)
  have HG2 : Hid (w2.heap[w.heap.size]? = some (.cells #[.int .i64 n, .slice A m c] 24 (0, 0))) := (hb2.block _ (Array.getElem?_eq_some_iff.1 HG1.out).1).trans HG1.out
  have e0 : w2.cell? ⟨w.heap.size, 0, none⟩ = some (.int .i64 n) := below_cell hb2 d0
  have e1 : w2.cell? ⟨w.heap.size, 1, none⟩ = some (.slice A m c) := below_cell hb2 d1
  clear hb2 d0 d1 HG1 HLg
  cases hlg : largeB n m with
  | true =>
    go_wp2_with fail
    go_ret
    exact ⟨rfl, HB2.out⟩
  | false =>
  have hm60 : m ≤ 60 := by
    simp only [largeB, Bool.or_eq_false_iff, decide_eq_false_iff_not] at hlg
    omega
  have HD := Lib.hid (document_any n A m c l w2 (HS.out w2 HB2.out) (by omega))
  clear hlg
  go_wp2_with fail
  refine HD.out.mono ?_
  rintro e w3 ⟨Ad, cd, rfl, hsd, hb3⟩
  rw [Hlen.out] at hsd ⊢
  have HB3 : Hid (Below w.heap.size w w3) := HB2.out.trans (hb3.mono HB2.out.size)
  have HG3 := Lib.hid ((hb3.block _ (Array.getElem?_eq_some_iff.1 HG2.out).1).trans HG2.out)
  have hg3l := (Array.getElem?_eq_some_iff.1 HG3.out).1
  have HSd := Lib.hid hsd
  have HB4 : Hid (Below w.heap.size w (w3.alloc (.cells #[.int .i64 n, .slice Ad m cd] 36))) := HB3.out.alloc HB3.out.size _
  have HSd4 : Hid (SliceIs Enc.edge (w3.alloc (.cells #[.int .i64 n, .slice Ad m cd] 36)) (w3.alloc (.cells #[.int .i64 n, .slice Ad m cd] 36)).heap.size Ad m cd l) := hsd.keep (belowA (Below.refl _ _) _)
  have HK4 : Hid (∀ W, Below (w3.alloc (.cells #[.int .i64 n, .slice Ad m cd] 36)).heap.size (w3.alloc (.cells #[.int .i64 n, .slice Ad m cd] 36)) W → W.cell? ⟨w.heap.size, 0, none⟩ = some (.int .i64 n) ∧ W.cell? ⟨w.heap.size, 1, none⟩ = some (.slice A m c) ∧ W.cell? ⟨w3.heap.size, 0, none⟩ = some (.int .i64 n) ∧ W.cell? ⟨w3.heap.size, 1, none⟩ = some (.slice Ad m cd)) := fun W hW => by
    have r1 := (hW.block w.heap.size (by simp; omega)).trans (heapOld (o := .cells #[.int .i64 n, .slice Ad m cd] 36) HG3.out)
    have r2 := (hW.block w3.heap.size (by simp)).trans (heapNew (w := w3) (o := .cells #[.int .i64 n, .slice Ad m cd] 36) (g := w3.heap.size) rfl)
    exact ⟨(cell_of_row _ _ 0 _ _ _ r1).trans rfl, (cell_of_row _ _ 1 _ _ _ r1).trans rfl, (cell_of_row _ _ 0 _ _ _ r2).trans rfl, (cell_of_row _ _ 1 _ _ _ r2).trans rfl⟩
  clear hsd hb3 e0 e1 HG2 HD HSd
  go_wp2_with fail
  generalize w3.alloc (.cells #[.int .i64 n, .slice Ad m cd] 36) = w4 at *
  generalize w3.heap.size = g3 at *
  have hz4 := HB4.out.size
  have HRR := Lib.hid (fun (W : World) (hW : Below w4.heap.size w4 W) => refRight_any n Ad m cd l W (HSd4.out.mono hW.size hW.block))
  have HK5 : Hid (∀ W, Below w4.heap.size w4 W → W.cell? ⟨w.heap.size, 0, none⟩ = some (.int .i64 n) ∧ W.cell? ⟨w.heap.size, 1, none⟩ = some (.slice A m c)) := fun W hW => ⟨(HK4.out W hW).1, (HK4.out W hW).2.1⟩
  have HB4x := HB4
  have x0 := (HK4.out w4 (Below.refl _ _)).2.2.1
  have x1 := (HK4.out w4 (Below.refl _ _)).2.2.2
  have HRR4 := Lib.hid (HRR.out w4 (Below.refl _ _))
  clear HRR
  cases hrg : rightG n l with
  | false =>
    rw [hrg] at HRR4
    have HT := Lib.hid (fun (W : World) (hW : Below w4.heap.size w4 W) => tog_bad n A m c l a b W (HS.out W (HB4.out.trans (hW.mono HB4.out.size))) hrg)
    have HR := Lib.hid (fun (W : World) (hW : Below w4.heap.size w4 W) => round_bad n A m c l a W (HS.out W (HB4.out.trans (hW.mono HB4.out.size))) hrg)
    clear hrg
    go_wp2_with fail
    refine HRR4.out.mono ?_
    rintro e w5 ⟨rfl, hb5⟩
    obtain ⟨k0, k1, k2, k3⟩ := HK4.out _ hb5
    have HT5 := Lib.hid (HT.out w5 hb5)
    have HQ5 := Lib.hid hb5
    clear hb5 x0 x1
    go_wp2_with fail
    refine HT5.out.mono ?_
    rintro e w6 ⟨rfl, hb6⟩
    have hq6 : Below w4.heap.size w4 w6 := HQ5.out.trans (hb6.mono HQ5.out.size)
    obtain ⟨f0, f1, f2, f3⟩ := HK4.out _ hq6
    have HR6 := Lib.hid (HR.out w6 hq6)
    have HQ6 := Lib.hid hq6
    clear hb6 hq6 k0 k1 k2 k3
    go_wp2_with fail
    refine HR6.out.mono ?_
    rintro e w7 ⟨rfl, hb7⟩
    have HE : Hid (Below w.heap.size w w7) := (HB4.out.trans (HQ6.out.mono HB4.out.size)).trans (hb7.mono (by have := HQ6.out.size; omega))
    clear hb7
    go_wp2_with fail
    go_ret
    exact ⟨by simp, HE.out⟩
  | true =>
    rw [hrg] at HRR4
    obtain ⟨N, rfl⟩ : ∃ N : Nat, n = (N : Int) := by
      have := hrg
      simp only [rightG, Bool.and_eq_true, decide_eq_true_eq] at this
      exact ⟨n.toNat, by omega⟩
    have hN : N ≤ 32 := by
      have := hrg
      simp only [rightG, Bool.and_eq_true, decide_eq_true_eq] at this
      omega
    have hw := right_in hrg
    have HI := Lib.hid (fun (W : World) (hW : Below w4.heap.size w4 W) => inside_any N hN A m c l W (HS.out W (HB4.out.trans (hW.mono HB4.out.size))) (by omega) hrg)
    have HT := Lib.hid (fun (W : World) (hW : Below w4.heap.size w4 W) => tog_any N hN A m c l a b W (HS.out W (HB4.out.trans (hW.mono HB4.out.size))) (by omega) hrg)
    have HR := Lib.hid (fun (W : World) (hW : Below w4.heap.size w4 W) => round_any N hN A m c l a W (HS.out W (HB4.out.trans (hW.mono HB4.out.size))) (by omega) hrg)
    have HRI := Lib.hid (fun (W : World) (hW : Below w4.heap.size w4 W) => refInside_any N (by omega) Ad m cd l W (HSd4.out.mono hW.size hW.block) hw (by omega))
    have HRT := Lib.hid (fun (W : World) (hW : Below w4.heap.size w4 W) => refTog_any N (by omega) Ad m cd l a b W (HSd4.out.mono hW.size hW.block))
    have HRO := Lib.hid (fun (W : World) (hW : Below w4.heap.size w4 W) => refRound_any N (by omega) Ad m cd l a W (HSd4.out.mono hW.size hW.block) hw (by omega))
    have hLl : (insL N l).length ≤ m := by rw [← Hlen.out]; exact List.length_filter_le ..
    generalize insL N l = L at *
    generalize togR N l a b = tv at *
    generalize roundR N l a = rv at *
    clear hrg hw
    go_wp2_with fail
    refine HRR4.out.mono ?_
    rintro e w5 ⟨rfl, hb5⟩
    have hq5 := hb5
    obtain ⟨k0, k1, k2, k3⟩ := HK4.out _ hb5
    clear hb5 x0 x1 HRR4
    go_wp2_with fail
    go_region_held3 (fun W => W.cell? ⟨w.heap.size, 0, none⟩ = some (.int .i64 (N : Int)) ∧ W.cell? ⟨w.heap.size, 1, none⟩ = some (.slice A m c) ∧ W.cell? ⟨g3, 0, none⟩ = some (.int .i64 (N : Int)) ∧ W.cell? ⟨g3, 1, none⟩ = some (.slice Ad m cd))
      (first
        | (refine HK4.out _ ?_; (repeat (first | with_reducible exact Below.refl _ _ | with_reducible assumption | with_reducible refine Below.drew ?_)); done)
        | go_keep)
      ((first
        | (go_at_call 15
           refine (HI.out _ (Below.drew hq5)).mono ?_
           rintro e6 w6 ⟨A1, k1', c1, rfl, hs6, hb6⟩
           have hq6 : Below w4.heap.size w4 w6 := (Below.drew hq5).trans (hb6.mono (by simpa using hq5.size)))
        | (go_at_call 20
           refine (HRI.out _ hq6).mono ?_
           rintro e7 w7 ⟨A2, k2', c2, rfl, hs7, hb7⟩
           have hq7 : Below w4.heap.size w4 w7 := hq6.trans (hb7.mono hq6.size))))
    have hk1 : k1' = L.length := hs6.1.symm
    have hk2 : k2' = L.length := hs7.1.symm
    subst hk1
    subst hk2
    have HS7 := Lib.hid (hs6.keep hb7)
    have HT7 := Lib.hid hs7
    have HQ7 := Lib.hid hq7
    have z : ((L.length : Int) != (L.length : Int)) = false := by simp
    clear hq5 hq6 hq7 hs6 hs7 hb6 hb7 k0 k1 k2 k3
    go_wp2_with fail
    clear z
    go_loopw [10, 42] (fun _ i wr => ∃ k : Nat, k ≤ L.length ∧ i = .int .i64 (k : Int) ∧ Hid (Below w7.heap.size w7 wr)) (fun _ i _ => L.length - (intOf i).toNat)
    case atStart => exact ⟨0, by omega, rfl, Below.refl _ _⟩
    case round =>
      obtain ⟨k, hk, rfl, HB⟩ := hrel
      have i0 : (0 : Int) ≤ (k : Int) := by omega
      have hQr : Below w4.heap.size w4 wr := HQ7.out.trans (HB.out.mono HQ7.out.size)
      have HQr := Lib.hid hQr
      by_cases hlt : k < L.length
      · have i1 : (k : Int) < (L.length : Int) := by omega
        obtain ⟨b1, o1, x, rfl, -, hx, y0, y1, y2, -⟩ := (HS7.out.below HB.out).edge_at hlt
        obtain ⟨b2, o2, x', rfl, -, hx', z0, z1, z2, -⟩ := (HT7.out.below HB.out).edge_at hlt
        obtain rfl : x = x' := by have := hx.out.symm.trans hx'.out; injection this
        have hne := run_neq_redge x wr.drew
        have HB2 : Hid (Below w7.heap.size w7 wr.drew) := Below.drew HB.out
        clear hx hx' hQr
        go_wp2_with fail
        refine drawnS mixed _ (fun W => W = wr.drew) rfl (by kernel_rfl) rfl rfl ?_
        iterate 9
          apply seqS_op
          · rintro W rfl
            go_wp2_with fail
            exact ⟨rfl, rfl, fun d hd => by cases hd; simp only [List.getElem?_toArray, List.getElem?_cons_succ, List.getElem?_cons_zero]; rfl, rfl⟩
          simp only [Act.put, List.setIfInBounds_toArray, List.set_cons_succ, List.set_cons_zero]
        apply seqS_end
        rintro W rfl
        go_wp2_with fail
        go_roundw
        case rel => exact ⟨k + 1, by omega, by go_num, HB2⟩
        case measure => simp [intOf]; omega
      · have i1 : ¬ (k : Int) < (L.length : Int) := by omega
        have HKx : Hid (∀ W, Below wr.heap.size wr W → W.cell? ⟨w.heap.size, 0, none⟩ = some (.int .i64 (N : Int)) ∧ W.cell? ⟨w.heap.size, 1, none⟩ = some (.slice A m c) ∧ W.cell? ⟨g3, 0, none⟩ = some (.int .i64 (N : Int)) ∧ W.cell? ⟨g3, 1, none⟩ = some (.slice Ad m cd)) := fun W hW => HK4.out W (HQr.out.trans (hW.mono HQr.out.size))
        have HCt := Lib.hid (fun (W : World) (hW : Below wr.heap.size wr W) => HT.out W (HQr.out.trans (hW.mono HQr.out.size)))
        have HRt := Lib.hid (fun (W : World) (hW : Below wr.heap.size wr W) => HRT.out W (HQr.out.trans (hW.mono HQr.out.size)))
        have HCr := Lib.hid (fun (W : World) (hW : Below wr.heap.size wr W) => HR.out W (HQr.out.trans (hW.mono HQr.out.size)))
        have HRr := Lib.hid (fun (W : World) (hW : Below wr.heap.size wr W) => HRO.out W (HQr.out.trans (hW.mono HQr.out.size)))
        have HBw : Hid (Below w.heap.size w wr) := HB4.out.trans (HQr.out.mono HB4.out.size)
        have e1 : (tv == tv) = true := by simp
        have e2 : (rv == rv) = true := by simp
        clear hQr
        go_wp2_with fail
        refine drawnS mixed _ (Below wr.heap.size wr) rfl (by kernel_rfl) rfl (Below.drew (Below.refl _ _)) ?_
        iterate 3
          apply seqS_op
          · intro W hW
            have k0 := (HKx.out W hW).1
            have k1 := (HKx.out W hW).2.1
            have k2 := (HKx.out W hW).2.2.1
            have k3 := (HKx.out W hW).2.2.2
            go_wp2_with fail
            exact ⟨rfl, rfl, fun d hd => by cases hd; simp only [List.getElem?_toArray, List.getElem?_cons_succ, List.getElem?_cons_zero]; rfl, hW⟩
          simp only [Act.put, List.setIfInBounds_toArray, List.set_cons_succ, List.set_cons_zero]
        apply seqS_op
        · intro W hW
          go_wp2_with fail
          refine (HCt.out W hW).mono ?_
          rintro e w1 ⟨rfl, hb1⟩
          go_wp2_with fail
          exact ⟨rfl, rfl, fun d hd => by cases hd; simp only [List.getElem?_toArray, List.getElem?_cons_succ, List.getElem?_cons_zero]; rfl, hW.trans (hb1.mono hW.size)⟩
        simp only [Act.put, List.setIfInBounds_toArray, List.set_cons_succ, List.set_cons_zero]
        iterate 3
          apply seqS_op
          · intro W hW
            have k0 := (HKx.out W hW).1
            have k1 := (HKx.out W hW).2.1
            have k2 := (HKx.out W hW).2.2.1
            have k3 := (HKx.out W hW).2.2.2
            go_wp2_with fail
            exact ⟨rfl, rfl, fun d hd => by cases hd; simp only [List.getElem?_toArray, List.getElem?_cons_succ, List.getElem?_cons_zero]; rfl, hW⟩
          simp only [Act.put, List.setIfInBounds_toArray, List.set_cons_succ, List.set_cons_zero]
        apply seqS_op
        · intro W hW
          go_wp2_with fail
          refine (HRt.out W hW).mono ?_
          rintro e w1 ⟨rfl, hb1⟩
          go_wp2_with fail
          exact ⟨rfl, rfl, fun d hd => by cases hd; simp only [List.getElem?_toArray, List.getElem?_cons_succ, List.getElem?_cons_zero]; rfl, hW.trans (hb1.mono hW.size)⟩
        simp only [Act.put, List.setIfInBounds_toArray, List.set_cons_succ, List.set_cons_zero]
        iterate 4
          apply seqS_op
          · intro W hW
            have k0 := (HKx.out W hW).1
            have k1 := (HKx.out W hW).2.1
            have k2 := (HKx.out W hW).2.2.1
            have k3 := (HKx.out W hW).2.2.2
            go_wp2_with fail
            exact ⟨rfl, rfl, fun d hd => by cases hd; simp only [List.getElem?_toArray, List.getElem?_cons_succ, List.getElem?_cons_zero]; rfl, hW⟩
          simp only [Act.put, List.setIfInBounds_toArray, List.set_cons_succ, List.set_cons_zero]
        apply seqS_op
        · intro W hW
          go_wp2_with fail
          refine (HCr.out W hW).mono ?_
          rintro e w1 ⟨rfl, hb1⟩
          go_wp2_with fail
          exact ⟨rfl, rfl, fun d hd => by cases hd; simp only [List.getElem?_toArray, List.getElem?_cons_succ, List.getElem?_cons_zero]; rfl, hW.trans (hb1.mono hW.size)⟩
        simp only [Act.put, List.setIfInBounds_toArray, List.set_cons_succ, List.set_cons_zero]
        iterate 2
          apply seqS_op
          · intro W hW
            have k0 := (HKx.out W hW).1
            have k1 := (HKx.out W hW).2.1
            have k2 := (HKx.out W hW).2.2.1
            have k3 := (HKx.out W hW).2.2.2
            go_wp2_with fail
            exact ⟨rfl, rfl, fun d hd => by cases hd; simp only [List.getElem?_toArray, List.getElem?_cons_succ, List.getElem?_cons_zero]; rfl, hW⟩
          simp only [Act.put, List.setIfInBounds_toArray, List.set_cons_succ, List.set_cons_zero]
        apply seqS_op
        · intro W hW
          go_wp2_with fail
          refine (HRr.out W hW).mono ?_
          rintro e w1 ⟨rfl, hb1⟩
          go_wp2_with fail
          exact ⟨rfl, rfl, fun d hd => by cases hd; simp only [List.getElem?_toArray, List.getElem?_cons_succ, List.getElem?_cons_zero]; rfl, hW.trans (hb1.mono hW.size)⟩
        simp only [Act.put, List.setIfInBounds_toArray, List.set_cons_succ, List.set_cons_zero]
        iterate 3
          apply seqS_op
          · intro W hW
            have k0 := (HKx.out W hW).1
            have k1 := (HKx.out W hW).2.1
            have k2 := (HKx.out W hW).2.2.1
            have k3 := (HKx.out W hW).2.2.2
            go_wp2_with fail
            exact ⟨rfl, rfl, fun d hd => by cases hd; simp only [List.getElem?_toArray, List.getElem?_cons_succ, List.getElem?_cons_zero]; rfl, hW⟩
          simp only [Act.put, List.setIfInBounds_toArray, List.set_cons_succ, List.set_cons_zero]
        apply seqS_end
        intro W hW
        have HE : Hid (Below w.heap.size w W) := HBw.out.trans (hW.mono HBw.out.size)
        clear hW
        go_wp2_with fail
        go_ret
        exact ⟨by simp, HE.out⟩
end Go.Proofs.Ytdbpbchhkdconaa
