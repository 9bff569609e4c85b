/- SccComponents: the walk. -/
import Derived.Test.YtdbpbchhkdconaaScDoc
import Derived.Test.YtdbpbchhkdconaaScRr
namespace Go.Proofs.Ytdbpbchhkdconaa
open Go.RowKit

theorem comps_len {N : Nat} {edges : List (Nat × Nat)} {tog : Nat → Nat → Bool} : ∀ (f : Nat) (d : Nat → Bool), (compsF N edges tog f d).length ≤ f
  | 0, _ => Nat.le_refl _
  | f + 1, d => by
    rw [compsF]
    cases nextN N edges tog d with
    | none => exact Nat.zero_le _
    | some a => exact Nat.succ_le_succ (comps_len f _)
theorem rowF_list (f : Nat → Nat) (n : Nat) : rowF f n = (((List.range n).map f).flatMap (fun (x : Nat) => [Value.int .i64 (x : Int)])).toArray := by
  unfold rowF
  congr 1
  rw [List.flatMap_map]
  induction List.range n with
  | nil => rfl
  | cons x l ih => rw [List.flatMap_cons, List.map_cons, ih]; rfl
theorem rowF_is {w : World} {g N : Nat} {f : Nat → Nat} (h : w.heap[g]? = some (.cells (rowF f N) 3 (0, 0))) (hN : N ≤ 1000) (hf : ∀ v, v < N → f v ≤ 1000) : SliceIs Enc.nat w w.heap.size (some ⟨g, 0, none⟩) N N ((List.range N).map f) := by
  rw [rowF_list] at h
  have h2 := SliceIs.of_block (E := Enc.nat) (fun (x : Nat) => [Value.int .i64 (x : Int)]) (fun _ => rfl) h rfl (by simp [reachN]; omega) (fun x hx => ⟨rfl, by
    obtain ⟨v, hv, rfl⟩ := List.mem_map.1 hx
    exact hf v (List.mem_range.1 hv)⟩)
  rw [List.length_map, List.length_range] at h2
  exact h2
theorem plN_small {N : Nat} {l : List GEdge} (hw : ∀ e ∈ l, withinE e (N : Int) = true) (hN : N ≤ 1000) (v : Nat) (hv : v < N) : ofG 0 (compsF N (eN l) (togN N (hasN l)) N (fun _ => false)) (fun _ => 0) v ≤ 1000 := by
  obtain ⟨c, h, -⟩ := plN_at hw hv
  have h1 := (List.getElem?_eq_some_iff.1 h).1
  have h2 := comps_len (N := N) (edges := eN l) (tog := togN N (hasN l)) N (fun _ => false)
  unfold plN at h1
  omega

set_option maxRecDepth 100000 in
set_option maxHeartbeats 2000000 in
theorem inside_bad (n : Int) (A : Option Addr) (m c : Nat) (l : List GEdge) (w : World) (h : SliceIs Enc.edge w w.heap.size A m c l) (hr : rightG n l = false) :
    Calls Try.prog 15 #[graphV n A m c] w (RetNil w) := by
  obtain ⟨hb0, c0, c1⟩ := boxG n A m c w
  have HR := Lib.hid (places_bad n A m c l _ (h.mono hb0.size hb0.block) hr)
  have HB0 := Lib.hid hb0
  clear h hr hb0
  go_enter Try.func15, Try.ntmps15
  go_wp2_with fail
  refine HR.out.mono ?_
  rintro e w1 ⟨rfl, hb1⟩
  have HE : Hid (Below w.heap.size w (w1.alloc (.cells #[.slice none 0 0] 29))) := (HB0.out.trans (hb1.mono HB0.out.size)).alloc (by have := HB0.out.size; have := hb1.size; omega) _
  clear hb1 c0 c1
  go_wp2_with fail
  go_ret
  exact ⟨rfl, HE.out⟩

set_option maxRecDepth 100000 in
set_option maxHeartbeats 8000000 in
theorem sccComponents_walk (n : Int) (A : Option Addr) (m c : Nat) (l : List GEdge) (w : World) (h : SliceIs Enc.edge w w.heap.size A m c l) :
    Calls Try.prog 4 #[graphV n A m c] w (RetBool true w) := by
  have mixed : Try.prog.follows .mixedOrders = true := by kernel_rfl
  obtain ⟨hb0, c0, c1⟩ := boxG n A m c w
  have hg0 : (w.alloc (.cells #[.int .i64 n, .slice A m c] 24)).heap[w.heap.size]? = some (.cells #[.int .i64 n, .slice A m c] 24 (0, 0)) := heapNew rfl
  have HA := Lib.hid (alive11_any (w.alloc (.cells #[.int .i64 n, .slice A m c] 24)))
  have HB0 := Lib.hid hb0
  have HG0 := Lib.hid hg0
  have HS := Lib.hid (fun (W : World) (hW : Below w.heap.size w W) => h.mono hW.size hW.block)
  have Hlen := Lib.hid h.1
  have HLg := Lib.hid (fun W => large_any n A m c W)
  have hmb := h.bound
  clear h hb0 hg0
  go_enter Try.func4, Try.ntmps4
  go_wp2_with fail
  refine HA.out.mono ?_
  rintro e w1 ⟨rfl, hb1⟩
  have HB1 : Hid (Below w.heap.size w w1) := HB0.out.trans (hb1.mono HB0.out.size)
  have HG1 : Hid (w1.heap[w.heap.size]? = some (.cells #[.int .i64 n, .slice A m c] 24 (0, 0))) := (hb1.block _ (by simp)).trans HG0.out
  have d0 : w1.cell? ⟨w.heap.size, 0, none⟩ = some (.int .i64 n) := below_cell hb1 c0
  have d1 : w1.cell? ⟨w.heap.size, 1, none⟩ = some (.slice A m c) := below_cell hb1 c1
  clear hb1 c0 c1 HB0 HG0 HA
  go_wp2_with fail
  refine (HLg.out w1).mono ?_
  rintro e w2 ⟨rfl, hb2⟩
  have HB2 : Hid (Below w.heap.size w w2) := HB1.out.trans (hb2.mono HB1.out.size)
  have HG2 : Hid (w2.heap[w.heap.size]? = some (.cells #[.int .i64 n, .slice A m c] 24 (0, 0))) := (hb2.block _ (Array.getElem?_eq_some_iff.1 HG1.out).1).trans HG1.out
  have e0 : w2.cell? ⟨w.heap.size, 0, none⟩ = some (.int .i64 n) := below_cell hb2 d0
  have e1 : w2.cell? ⟨w.heap.size, 1, none⟩ = some (.slice A m c) := below_cell hb2 d1
  clear hb2 d0 d1 HG1 HLg
  cases hlg : largeB n m with
  | true =>
    go_wp2_with fail
    go_ret
    exact ⟨rfl, HB2.out⟩
  | false =>
  have hm60 : m ≤ 60 := by
    simp only [largeB, Bool.or_eq_false_iff, decide_eq_false_iff_not] at hlg
    omega
  have HD := Lib.hid (document_any n A m c l w2 (HS.out w2 HB2.out) (by omega))
  clear hlg
  go_wp2_with fail
  refine HD.out.mono ?_
  rintro e w3 ⟨Ad, cd, rfl, hsd, hb3⟩
  rw [Hlen.out] at hsd ⊢
  have HB3 : Hid (Below w.heap.size w w3) := HB2.out.trans (hb3.mono HB2.out.size)
  have HG3 := Lib.hid ((hb3.block _ (Array.getElem?_eq_some_iff.1 HG2.out).1).trans HG2.out)
  have hg3l := (Array.getElem?_eq_some_iff.1 HG3.out).1
  have HSd := Lib.hid hsd
  have HB4 : Hid (Below w.heap.size w (w3.alloc (.cells #[.int .i64 n, .slice Ad m cd] 36))) := HB3.out.alloc HB3.out.size _
  have HSd4 : Hid (SliceIs Enc.edge (w3.alloc (.cells #[.int .i64 n, .slice Ad m cd] 36)) (w3.alloc (.cells #[.int .i64 n, .slice Ad m cd] 36)).heap.size Ad m cd l) := hsd.keep (belowA (Below.refl _ _) _)
  have HK4 : Hid (∀ W, Below (w3.alloc (.cells #[.int .i64 n, .slice Ad m cd] 36)).heap.size (w3.alloc (.cells #[.int .i64 n, .slice Ad m cd] 36)) W → W.cell? ⟨w.heap.size, 0, none⟩ = some (.int .i64 n) ∧ W.cell? ⟨w.heap.size, 1, none⟩ = some (.slice A m c) ∧ W.cell? ⟨w3.heap.size, 0, none⟩ = some (.int .i64 n) ∧ W.cell? ⟨w3.heap.size, 1, none⟩ = some (.slice Ad m cd)) := fun W hW => by
    have r1 := (hW.block w.heap.size (by simp; omega)).trans (heapOld (o := .cells #[.int .i64 n, .slice Ad m cd] 36) HG3.out)
    have r2 := (hW.block w3.heap.size (by simp)).trans (heapNew (w := w3) (o := .cells #[.int .i64 n, .slice Ad m cd] 36) (g := w3.heap.size) rfl)
    exact ⟨(cell_of_row _ _ 0 _ _ _ r1).trans rfl, (cell_of_row _ _ 1 _ _ _ r1).trans rfl, (cell_of_row _ _ 0 _ _ _ r2).trans rfl, (cell_of_row _ _ 1 _ _ _ r2).trans rfl⟩
  clear hsd hb3 e0 e1 HG2 HD HSd
  go_wp2_with fail
  generalize w3.alloc (.cells #[.int .i64 n, .slice Ad m cd] 36) = w4 at *
  generalize w3.heap.size = g3 at *
  have hz4 := HB4.out.size
  have HRR := Lib.hid (fun (W : World) (hW : Below w4.heap.size w4 W) => refRight_any n Ad m cd l W (HSd4.out.mono hW.size hW.block))
  have HK5 : Hid (∀ W, Below w4.heap.size w4 W → W.cell? ⟨w.heap.size, 0, none⟩ = some (.int .i64 n) ∧ W.cell? ⟨w.heap.size, 1, none⟩ = some (.slice A m c)) := fun W hW => ⟨(HK4.out W hW).1, (HK4.out W hW).2.1⟩
  cases hrg : rightG n l with
  | false =>
    rw [hrg] at HRR
    have HC := Lib.hid (fun (W : World) (hW : Below w4.heap.size w4 W) => comps_bad n A m c l W (HS.out W (HB4.out.trans (hW.mono HB4.out.size))) hrg)
    have HP := Lib.hid (fun (W : World) (hW : Below w4.heap.size w4 W) => places_bad n A m c l W (HS.out W (HB4.out.trans (hW.mono HB4.out.size))) hrg)
    have HI := Lib.hid (fun (W : World) (hW : Below w4.heap.size w4 W) => inside_bad n A m c l W (HS.out W (HB4.out.trans (hW.mono HB4.out.size))) hrg)
    clear hrg
    go_region_held3 (fun W => W.cell? ⟨w.heap.size, 0, none⟩ = some (.int .i64 n) ∧ W.cell? ⟨w.heap.size, 1, none⟩ = some (.slice A m c))
      (first
        | (refine HK5.out _ ?_; (repeat (first | with_reducible exact Below.refl _ _ | with_reducible assumption | with_reducible refine Below.drew ?_)); done)
        | go_keep)
      ((first
        | (go_at_call 9
           refine (HC.out _ ((Below.refl _ _).drew)).mono ?_
           rintro e5 w5 ⟨rfl, hb5⟩
           have hq5 : Below w4.heap.size w4 w5 := ((Below.refl w4.heap.size w4).drew).trans hb5
           clear hb5)
        | (go_at_call 10
           refine (HP.out _ hq5).mono ?_
           rintro e6 w6 ⟨rfl, hb6⟩
           have hq6 : Below w4.heap.size w4 w6 := hq5.trans (hb6.mono hq5.size)
           clear hb6)))
    obtain ⟨k0, k1, k2, k3⟩ := HK4.out _ hq6
    have HQ6 := Lib.hid hq6
    have HR6 := Lib.hid (HRR.out w6 hq6)
    clear hq5 hq6
    go_wp2_with fail
    refine HR6.out.mono ?_
    rintro e w7 ⟨rfl, hb7⟩
    have hq7 : Below w4.heap.size w4 w7 := HQ6.out.trans (hb7.mono HQ6.out.size)
    obtain ⟨f0, f1, f2, f3⟩ := HK4.out _ hq7
    have HQ7 := Lib.hid hq7
    have HI7 := Lib.hid (HI.out w7 hq7)
    clear hb7 hq7 k0 k1 k2 k3
    go_wp2_with fail
    refine HI7.out.mono ?_
    rintro e w8 ⟨rfl, hb8⟩
    have HE : Hid (Below w.heap.size w w8) := (HB4.out.trans (HQ7.out.mono HB4.out.size)).trans (hb8.mono (by have := HQ7.out.size; omega))
    clear hb8
    go_wp2_with fail
    go_ret
    exact ⟨rfl, HE.out⟩
  | true =>
    rw [hrg] at HRR
    obtain ⟨N, rfl⟩ : ∃ N : Nat, n = (N : Int) := by
      have := hrg
      simp only [rightG, Bool.and_eq_true, decide_eq_true_eq] at this
      exact ⟨n.toNat, by omega⟩
    have hN : N ≤ 32 := by
      have := hrg
      simp only [rightG, Bool.and_eq_true, decide_eq_true_eq] at this
      omega
    have hw := right_in hrg
    have hpl := plN_small hw (by omega)
    have HC := Lib.hid (fun (W : World) (hW : Below w4.heap.size w4 W) => comps_any N hN A m c l W (HS.out W (HB4.out.trans (hW.mono HB4.out.size))) (by omega) hrg)
    have HP := Lib.hid (fun (W : World) (hW : Below w4.heap.size w4 W) => places_any N hN A m c l W (HS.out W (HB4.out.trans (hW.mono HB4.out.size))) (by omega) hrg)
    have HRC := Lib.hid (fun (W : World) (hW : Below w4.heap.size w4 W) => refComps_any N (by omega) Ad m cd l W (HSd4.out.mono hW.size hW.block) hw)
    have HRP := Lib.hid (fun (W : World) (hW : Below w4.heap.size w4 W) => refPlaces_any N (by omega) Ad m cd l W (HSd4.out.mono hW.size hW.block) hw)
    have hcl := comps_len (N := N) (edges := eN l) (tog := togN N (hasN l)) N (fun _ => false)
    unfold CoPost at HC
    unfold CompsPost at HRC
    generalize compsF N (eN l) (togN N (hasN l)) N (fun _ => false) = L at *
    have HPL := Lib.hid hpl
    clear hrg hw hpl
    go_region_held3 (fun W => W.cell? ⟨w.heap.size, 0, none⟩ = some (.int .i64 (N : Int)) ∧ W.cell? ⟨w.heap.size, 1, none⟩ = some (.slice A m c))
      (first
        | (refine HK5.out _ ?_; (repeat (first | with_reducible exact Below.refl _ _ | with_reducible assumption | with_reducible refine Below.drew ?_)); done)
        | go_keep)
      ((first
        | (go_at_call 9
           refine (HC.out _ ((Below.refl _ _).drew)).mono ?_
           rintro e5 w5 ⟨A1, k1, c1, rfl, hs5, hb5⟩
           have hq5 : Below w4.heap.size w4 w5 := ((Below.refl w4.heap.size w4).drew).trans hb5
           clear hb5)
        | (go_at_call 10
           refine (HP.out _ hq5).mono ?_
           rintro e6 w6 ⟨R, rfl, hR6, hr6, hb6⟩
           have hq6 : Below w4.heap.size w4 w6 := hq5.trans (hb6.mono hq5.size))))
    obtain ⟨x0, x1, x2, x3⟩ := HK4.out _ hq6
    have hk1 : k1 = L.length := hs5.1.symm
    subst hk1
    have HS6 := Lib.hid (hs5.keep hb6)
    have HR6 := Lib.hid hr6
    have hRl := (Array.getElem?_eq_some_iff.1 hr6).1
    have HQ6 := Lib.hid hq6
    have HRR6 := Lib.hid (HRR.out w6 hq6)
    clear hq5 hq6 hs5 hr6 hb6
    go_wp2_with fail
    refine HRR6.out.mono ?_
    rintro e w7 ⟨rfl, hb7⟩
    have hq7 : Below w4.heap.size w4 w7 := HQ6.out.trans (hb7.mono HQ6.out.size)
    obtain ⟨f0, f1, f2, f3⟩ := HK4.out _ hq7
    have HS7 := Lib.hid (HS6.out.keep hb7)
    have HR7 : Hid (w7.heap[R]? = some (.cells (rowF (ofG 0 L (fun _ => 0)) N) 3 (0, 0))) := (hb7.block _ hRl).trans HR6.out
    have HQ7 := Lib.hid hq7
    have HRC7 := Lib.hid (HRC.out w7 hq7)
    have hRl7 := (Array.getElem?_eq_some_iff.1 HR7.out).1
    clear hb7 hq7 x0 x1 x2 x3 HS6 HR6 hRl
    go_wp2_with fail
    refine HRC7.out.mono ?_
    rintro e w8 ⟨A2, k2, c2, rfl, hs8, hb8⟩
    have hk2 : k2 = L.length := (SliceIs.len_eq hs8).symm
    subst hk2
    have hq8 : Below w4.heap.size w4 w8 := HQ7.out.trans (hb8.mono HQ7.out.size)
    obtain ⟨y0, y1, y2, y3⟩ := HK4.out _ hq8
    have HS8 := Lib.hid (HS7.out.keep hb8)
    have HT8 := Lib.hid (SliceFar.is hs8)
    have HR8 : Hid (w8.heap[R]? = some (.cells (rowF (ofG 0 L (fun _ => 0)) N) 3 (0, 0))) := (hb8.block _ hRl7).trans HR7.out
    have hRl8 := (Array.getElem?_eq_some_iff.1 HR8.out).1
    have HQ8 := Lib.hid hq8
    have HRP8 := Lib.hid (HRP.out w8 hq8)
    have z : ((L.length : Int) != (L.length : Int)) = false := by simp
    clear hb8 hq8 f0 f1 f2 f3 HS7 HR7 hRl7 hs8
    have hyu : undef = Value.tuple #[] := rfl
    go_wp2_with fail
    refine HRP8.out.mono ?_
    rintro e w9 ⟨R2, rfl, hR9, hr9, hb9⟩
    have HQ9 : Hid (Below w4.heap.size w4 w9) := HQ8.out.trans (hb9.mono HQ8.out.size)
    have HS9 := Lib.hid (HS8.out.keep hb9)
    have HT9 := Lib.hid (HT8.out.keep hb9)
    have HI9 := Lib.hid (ints_eq _ _ _ _ _ _ _ w9 (nat_int (rowF_is ((hb9.block _ hRl8).trans HR8.out) (by omega) HPL.out)) (nat_int (rowF_is hr9 (by omega) HPL.out)))
    clear hb9 hr9 y0 y1 y2 y3 HS8 HT8 HR8 hRl8 hR9 hR6
    go_wp2_with fail
    refine HI9.out.mono ?_
    rintro e w10 ⟨rfl, hb10⟩
    have HQ10 : Hid (Below w4.heap.size w4 w10) := HQ9.out.trans (hb10.mono HQ9.out.size)
    have HS10 := Lib.hid (HS9.out.keep hb10)
    have HT10 := Lib.hid (HT9.out.keep hb10)
    clear hb10 HS9 HT9
    go_wp2_with fail
    clear z hyu
    go_loopw [7, 47] (fun _ i wr => ∃ k : Nat, k ≤ L.length ∧ i = .int .i64 (k : Int) ∧ Hid (Below w10.heap.size w10 wr)) (fun _ i _ => L.length - (intOf i).toNat)
    case atStart => exact ⟨0, by omega, rfl, Below.refl _ _⟩
    case round =>
      obtain ⟨k, hk, rfl, HB⟩ := hrel
      have i0 : (0 : Int) ≤ (k : Int) := by omega
      by_cases hlt : k < L.length
      · have i1 : (k : Int) < (L.length : Int) := by omega
        obtain ⟨b, o, p1, B1, n1, d1, rfl, hb, hx, x0, hp⟩ := (HS10.out.keep HB.out).slice_at hlt
        obtain ⟨b', o', p2, B2, n2, d2, rfl, hb', hx', x0', hp'⟩ := (HT10.out.keep HB.out).slice_at hlt
        obtain rfl : p1 = p2 := by have := hx.out.symm.trans hx'.out; injection this
        have HI := Lib.hid (fun (W : World) (hW : Below wr.heap.size wr W) => ints_eq B1 B2 n1 n2 d1 d2 _ W (nat_int (hp.keep hW)) (nat_int (hp'.keep hW)))
        have HKc : Hid (∀ W, Below wr.heap.size wr W → W.cell? ⟨b, o + k, none⟩ = some (.slice B1 n1 d1) ∧ W.cell? ⟨b', o' + k, none⟩ = some (.slice B2 n2 d2) ∧ Below w10.heap.size w10 W) := fun W hW => ⟨below_cell hW x0, below_cell hW x0', HB.out.trans (hW.mono HB.out.size)⟩
        clear hp hp' hx hx' x0 x0' hb hb'
        go_wp2_with fail
        refine drawnS mixed _ (Below wr.heap.size wr) rfl (by kernel_rfl) rfl (Below.drew (Below.refl _ _)) ?_
        iterate 8
          apply seqS_op
          · intro W hW
            have k0 := (HKc.out W hW).1
            have k1 := (HKc.out W hW).2.1
            go_wp2_with fail
            exact ⟨rfl, rfl, fun d hd => by cases hd; simp only [List.getElem?_toArray, List.getElem?_cons_succ, List.getElem?_cons_zero]; rfl, hW⟩
          simp only [Act.put, List.setIfInBounds_toArray, List.set_cons_succ, List.set_cons_zero]
        apply seqS_op
        · intro W hW
          go_wp2_with fail
          refine (HI.out W hW).mono ?_
          rintro e w1 ⟨rfl, hb1⟩
          go_wp2_with fail
          exact ⟨rfl, rfl, fun d hd => by cases hd; simp only [List.getElem?_toArray, List.getElem?_cons_succ, List.getElem?_cons_zero]; rfl, hW.trans (hb1.mono hW.size)⟩
        simp only [Act.put, List.setIfInBounds_toArray, List.set_cons_succ, List.set_cons_zero]
        apply seqS_op
        · intro W hW
          go_wp2_with fail
          exact ⟨rfl, rfl, fun d hd => by cases hd; simp only [List.getElem?_toArray, List.getElem?_cons_succ, List.getElem?_cons_zero]; rfl, hW⟩
        simp only [Act.put, List.setIfInBounds_toArray, List.set_cons_succ, List.set_cons_zero]
        apply seqS_end
        intro W hW
        have HE := Lib.hid (HKc.out W hW).2.2
        clear hW
        go_wp2_with fail
        go_roundw
        case rel => exact ⟨k + 1, by omega, by go_num, HE⟩
        case measure => simp [intOf]; omega
      · have i1 : ¬ (k : Int) < (L.length : Int) := by omega
        have HE : Hid (Below w.heap.size w wr) := (HB4.out.trans (HQ10.out.mono HB4.out.size)).trans (HB.out.mono (by have := HQ10.out.size; omega))
        go_wp2_with fail
        go_ret
        exact ⟨rfl, HE.out⟩
end Go.Proofs.Ytdbpbchhkdconaa
