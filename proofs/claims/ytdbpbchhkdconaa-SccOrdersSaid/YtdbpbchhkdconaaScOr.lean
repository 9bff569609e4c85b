/- SccOrders: the walk. -/
import Derived.Test.YtdbpbchhkdconaaScOr0
namespace Go.Proofs.Ytdbpbchhkdconaa
open Go.RowKit

set_option maxRecDepth 100000 in
set_option maxHeartbeats 16000000 in
theorem sccOrders_walk (n : Int) (A : Option Addr) (m c : Nat) (l : List GEdge) (w : World) (h : SliceIs Enc.edge w w.heap.size A m c l) :
    Calls Try.prog 3 #[graphV n A m c] w (RetBool true w) := by
  have mixed : Try.prog.follows .mixedOrders = true := by kernel_rfl
  have hyu : undef = Value.tuple #[] := rfl
  obtain ⟨hb0, c0, c1⟩ := boxG n A m c w
  have hg0 : (w.alloc (.cells #[.int .i64 n, .slice A m c] 24)).heap[w.heap.size]? = some (.cells #[.int .i64 n, .slice A m c] 24 (0, 0)) := heapNew rfl
  have HA := Lib.hid (alive11_any (w.alloc (.cells #[.int .i64 n, .slice A m c] 24)))
  have HB0 := Lib.hid hb0
  have HG0 := Lib.hid hg0
  have HS := Lib.hid (fun (W : World) (hW : Below w.heap.size w W) => h.mono hW.size hW.block)
  have Hlen := Lib.hid h.1
  have hmb := h.bound
  clear h hb0 hg0
  go_enter Try.func3, Try.ntmps3
  go_wp2_with fail
  refine HA.out.mono ?_
  rintro e w1 ⟨rfl, hb1⟩
  have HB1 : Hid (Below w.heap.size w w1) := HB0.out.trans (hb1.mono HB0.out.size)
  have HG1 : Hid (w1.heap[w.heap.size]? = some (.cells #[.int .i64 n, .slice A m c] 24 (0, 0))) := (hb1.block _ (by simp)).trans HG0.out
  have d0 : w1.cell? ⟨w.heap.size, 0, none⟩ = some (.int .i64 n) := below_cell hb1 c0
  have d1 : w1.cell? ⟨w.heap.size, 1, none⟩ = some (.slice A m c) := below_cell hb1 c1
  clear hb1 c0 c1 HB0 HG0 HA
  by_cases hm300 : 300 < m
  · have i1 : (300 : Int) < (m : Int) := by omega
    go_wp2_with fail
    go_ret
    exact ⟨rfl, HB1.out⟩
  have i1 : ¬ (300 : Int) < (m : Int) := by omega
  have HR := Lib.hid (right_any n A m c l w1 (HS.out w1 HB1.out))
  cases hrg : rightG n l with
  | false =>
    rw [hrg] at HR
    clear hrg
    go_wp2_with fail
    refine HR.out.mono ?_
    rintro e w2 ⟨rfl, hb2⟩
    have HB2 : Hid (Below w.heap.size w w2) := HB1.out.trans (hb2.mono HB1.out.size)
    clear hb2
    go_wp2_with fail
    go_ret
    exact ⟨rfl, HB2.out⟩
  | true =>
  rw [hrg] at HR
  obtain ⟨N, rfl⟩ : ∃ N : Nat, n = (N : Int) := by
    have := hrg
    simp only [rightG, Bool.and_eq_true, decide_eq_true_eq] at this
    exact ⟨n.toNat, by omega⟩
  have hN : N ≤ 32 := by
    have := hrg
    simp only [rightG, Bool.and_eq_true, decide_eq_true_eq] at this
    omega
  have hw := right_in hrg
  have Hw := Lib.hid hw
  have HC := Lib.hid (fun (W : World) (hW : Below w1.heap.size w1 W) => comps_any N hN A m c l W (HS.out W (HB1.out.trans (hW.mono HB1.out.size))) (by omega) hrg)
  have HP := Lib.hid (fun (W : World) (hW : Below w1.heap.size w1 W) => places_any N hN A m c l W (HS.out W (HB1.out.trans (hW.mono HB1.out.size))) (by omega) hrg)
  have HTo := Lib.hid (fun (a b : Int) (W : World) (hW : Below w1.heap.size w1 W) => tog_any N hN A m c l a b W (HS.out W (HB1.out.trans (hW.mono HB1.out.size))) (by omega) hrg)
  have HPlace : Hid (∀ (i : Nat) (c : List Nat), (compL N l)[i]? = some c → ∀ x ∈ c, x < N ∧ plN N l x = i) := fun i c hc x hx => comp_place hw hc hx
  have HUp : Hid (∀ (i : Nat) (c : List Nat), (compL N l)[i]? = some c → c.Pairwise (· < ·)) := fun i c hc => comp_up hc
  have HNew : Hid (∀ (i q x : Nat) (c : List Nat), (compL N l)[i]? = some c → c[q]? = some x → inB (((compL N l).take i).flatten ++ c.take q) x = 0) := fun i q x c hc hx => inB_new hw hc hx
  have HAll : Hid (∀ v, v < N → inB (compL N l).flatten v = 1) := fun v hv => inB_all hw hv
  have HEd : Hid (∀ a b, (a, b) ∈ eN l → plN N l b ≤ plN N l a) := fun a b hab => comp_edge hw hab
  have HTp : Hid (∀ a b, a < N → b < N → (plN N l a = plN N l b ↔ togN N (hasN l) a b = true)) := fun a b ha hb => plN_tog hw ha hb
  have hpl := plN_small hw (by omega)
  have HPl : Hid (ofG 0 (compL N l) (fun _ => 0) = plN N l) := rfl
  have HK1 : Hid (∀ W, Below w1.heap.size w1 W → W.cell? ⟨w.heap.size, 0, none⟩ = some (.int .i64 (N : Int)) ∧ W.cell? ⟨w.heap.size, 1, none⟩ = some (.slice A m c)) := fun W hW => ⟨below_cell hW d0, below_cell hW d1⟩
  unfold CoPost at HC
  unfold PlPost at HP
  rw [show compsF N (eN l) (togN N (hasN l)) N (fun _ => false) = compL N l from rfl] at HC HP
  rw [HPl.out] at HP
  have hLl : (compL N l).length ≤ N := comps_len N (fun _ => false)
  generalize compL N l = L at *
  generalize plN N l = pl at *
  clear hrg hw hpl HPl
  go_wp2_with fail
  refine HR.out.mono ?_
  rintro e w2 ⟨rfl, hb2⟩
  have hq2 := hb2
  obtain ⟨e0, e1⟩ := HK1.out w2 hb2
  clear hb2 d0 d1
  go_wp2_with fail
  go_region_held3 (fun W => W.cell? ⟨w.heap.size, 0, none⟩ = some (.int .i64 (N : Int)) ∧ W.cell? ⟨w.heap.size, 1, none⟩ = some (.slice A m c))
    (first
      | (refine HK1.out _ ?_; (repeat (first | with_reducible exact Below.refl _ _ | with_reducible assumption | with_reducible refine Below.drew ?_)); done)
      | go_keep)
    ((first
      | (go_at_call 9
         refine (HC.out _ (Below.drew hq2)).mono ?_
         rintro e5 w5 ⟨A1, k1, c1, rfl, hs5, hb5⟩
         have hq5 : Below w1.heap.size w1 w5 := (Below.drew hq2).trans (hb5.mono (by simpa using hq2.size)))
      | (go_at_call 10
         refine (HP.out _ hq5).mono ?_
         rintro e6 w6 ⟨R, rfl, hR6, hr6, hb6⟩
         have hq6 : Below w1.heap.size w1 w6 := hq5.trans (hb6.mono hq5.size))))
  obtain ⟨x0, x1⟩ := HK1.out _ hq6
  have hk1 : k1 = L.length := hs5.1.symm
  subst hk1
  have HS6 := Lib.hid (hs5.keep hb6)
  have HR6 := Lib.hid hr6
  have hRl := (Array.getElem?_eq_some_iff.1 hr6).1
  have HQ6 := Lib.hid hq6
  have z : ((N : Int) != (N : Int)) = false := by simp
  clear hq2 hq5 hq6 hs5 hr6 hb5 hb6 hR6 e0 e1
  have hmk := run_make_row' (P := Try.prog) 29 3 (.int .i64 0) 8 Try.underlying29 info_nat rfl .i64 .i64 N (by omega) (by omega) w6
  rw [rowF_zero] at hmk
  go_wp2_with fail
  clear x0 x1 z
  have hb7 : Below w6.heap.size w6 (w6.alloc (.cells (rowF (fun _ => 0) N) 3)) := belowA (Below.refl _ _) _
  have hr7 : (w6.alloc (.cells (rowF (fun _ => 0) N) 3)).heap[w6.heap.size]? = some (.cells (rowF (inB (L.take 0).flatten) N) 3 (0, 0)) := by
    rw [heapNew rfl]
    have e : inB (L.take 0).flatten = fun _ => 0 := by funext v; simp [inB]
    rw [e]
  generalize w6.alloc (.cells (rowF (fun _ => 0) N) 3) = V at hb7 hr7 hmk ⊢
  have HB7 := Lib.hid hb7
  have HR7 := Lib.hid hr7
  clear hb7 hr7 hmk
  have HPR : Hid (∀ W, Below w6.heap.size w6 W → ∀ x, x < N → W.cell? ⟨R, x, none⟩ = some (.int .i64 (pl x : Int))) := fun W hW x hx => by
    rw [cell_of_row _ _ _ _ _ _ ((hW.block R hRl).trans HR6.out), rowF_get hx]
  have HKw : Hid (∀ W, Below w6.heap.size w6 W → W.cell? ⟨w.heap.size, 0, none⟩ = some (.int .i64 (N : Int)) ∧ W.cell? ⟨w.heap.size, 1, none⟩ = some (.slice A m c)) := fun W hW => HK1.out W (HQ6.out.trans (hW.mono HQ6.out.size))
  go_loopw [6, 7, 8, 9, 39] (fun _ _ _ _ i wr => ∃ j : Nat, j ≤ L.length ∧ i = .int .i64 (j : Int) ∧ Hid (wr.heap[w6.heap.size]? = some (.cells (rowF (inB (L.take j).flatten) N) 3 (0, 0))) ∧ Hid (Below w6.heap.size w6 wr)) (fun _ _ _ _ i _ => L.length - (intOf i).toNat)
  case atStart => exact ⟨0, by omega, rfl, HR7, HB7⟩
  case round =>
    obtain ⟨j, hj, rfl, HM, HB⟩ := hrel
    have j0 : (0 : Int) ≤ (j : Int) := by omega
    by_cases hlt : j < L.length
    · have j1 : (j : Int) < (L.length : Int) := by omega
      obtain ⟨b, o, part, A', n', c', rfl, hb, hx, x0, hp⟩ := (HS6.out.below HB.out).slice_at hlt
      have hpn : part.length = n' := hp.1
      subst hpn
      have hpb := hp.bound
      have HPp := Lib.hid hp
      have Hx := Lib.hid hx.out
      have HM0 : Hid (wr.heap[w6.heap.size]? = some (.cells (rowF (inB ((L.take j).flatten ++ part.take 0)) N) 3 (0, 0))) := by
        show _ = _
        rw [List.take_zero, List.append_nil]; exact HM.out
      clear hx hp hb
      go_wp2_with fail
      obtain ⟨W0, hW0⟩ : ∃ X, X = wr := ⟨_, rfl⟩
      subst hW0
      clear x0
      go_loopw [8, 9, 46] (fun _ _ i wr => ∃ q : Nat, q ≤ part.length ∧ i = .int .i64 (q : Int) ∧ Hid (wr.heap[w6.heap.size]? = some (.cells (rowF (inB ((L.take j).flatten ++ part.take q)) N) 3 (0, 0))) ∧ Hid (Below w6.heap.size w6 wr)) (fun _ _ i _ => part.length - (intOf i).toNat)
      case atStart => exact ⟨0, by omega, rfl, HM0, HB⟩
      case round =>
        obtain ⟨q, hq, rfl, HMq, HBq⟩ := hrel
        have q0 : (0 : Int) ≤ (q : Int) := by omega
        by_cases hlq : q < part.length
        · have q1 : (q : Int) < (part.length : Int) := by omega
          have hpq : SliceIs Enc.nat wr w6.heap.size A' part.length c' part := HPp.out.via HB.out HBq.out
          obtain ⟨b2, o2, x, rfl, hb2, hx2, y0, -⟩ := hpq.nat_at hlq
          obtain ⟨hxN, hxp⟩ := HPlace.out j part Hx.out x (List.mem_of_getElem? hx2.out)
          have y1 := HPR.out wr HBq.out x hxN
          rw [hxp] at y1
          obtain ⟨k0, k1⟩ := HKw.out wr HBq.out
          have hz : inB ((L.take j).flatten ++ part.take q) x = 0 := HNew.out j q x part Hx.out hx2.out
          have f0 : wr.cell? ⟨w6.heap.size, x, none⟩ = some (.int .i64 0) := by
            rw [cell_of_row _ _ _ _ _ _ HMq.out, rowF_get hxN, hz]; rfl
          have f1 : wr.frozen? ⟨w6.heap.size, x, none⟩ = false := frozen_of_row _ _ _ _ _ HMq.out
          have HM9 : Hid ((wr.setCell ⟨w6.heap.size, x, none⟩ (.int .i64 1)).heap[w6.heap.size]? = some (.cells (rowF (inB ((L.take j).flatten ++ part.take (q + 1))) N) 3 (0, 0))) := by
            have h1 := set_cell8 (i := x) (v := .int .i64 ((1 : Nat) : Int)) HMq.out
            rw [rowF_set, inB_add, List.append_assoc] at h1
            have e : part.take (q + 1) = part.take q ++ [x] := by rw [List.take_add_one, hx2.out]; rfl
            rw [e]
            exact h1
          have HB9 : Hid (Below w6.heap.size w6 (wr.setCell ⟨w6.heap.size, x, none⟩ (.int .i64 1))) := HBq.out.setCell (Nat.le_refl _) _
          have x0 : (0 : Int) ≤ (x : Int) := by omega
          have x1 : (x : Int) < (N : Int) := by omega
          have x2 : ¬ (x : Int) < 0 := by omega
          have x3 : ¬ (N : Int) ≤ (x : Int) := by omega
          have z1 : ((j : Int) != (j : Int)) = false := by simp
          by_cases hq0 : q = 0
          · have g0 : ¬ (0 : Int) < (q : Int) := by omega
            clear hpq hx2 HMq HBq hz hb2 hxp hq0
            go_wp2_with fail
            go_roundw
            case rel => exact ⟨q + 1, by omega, by go_num, HM9, HB9⟩
            case measure => simp [intOf]; omega
          · have g0 : (0 : Int) < (q : Int) := by omega
            obtain ⟨r, hr⟩ : ∃ r : Nat, (q : Int) - 1 = (r : Int) := ⟨q - 1, by omega⟩
            obtain ⟨b3, o3, y, hA3, hb3, hy2, y2, -⟩ := hpq.nat_at (i := r) (by omega)
            injection hA3 with hA3; injection hA3 with e3 e4 _; subst e3; subst e4
            have hyx : y < x := by
              obtain ⟨h1, e1⟩ := List.getElem?_eq_some_iff.1 hy2.out
              obtain ⟨h2, e2⟩ := List.getElem?_eq_some_iff.1 hx2.out
              have := List.pairwise_iff_getElem.1 (HUp.out j part Hx.out) r q h1 h2 (by omega)
              omega
            have g1 : ¬ (x : Int) ≤ (y : Int) := by omega
            have g3 : (0 : Int) ≤ (r : Int) := by omega
            have g4 : (r : Int) < (part.length : Int) := by omega
            clear hpq hx2 hy2 HMq HBq hz hb2 hb3 hxp hyx hq0
            go_wp2_with fail
            go_roundw
            case rel => exact ⟨q + 1, by omega, by go_num, HM9, HB9⟩
            case measure => simp [intOf]; omega
        · have q1 : ¬ (q : Int) < (part.length : Int) := by omega
          have HM9 : Hid (wr.heap[w6.heap.size]? = some (.cells (rowF (inB (L.take (j + 1)).flatten) N) 3 (0, 0))) := by
            have e : (L.take (j + 1)).flatten = (L.take j).flatten ++ part.take q := by
              rw [List.take_add_one, Hx.out, List.take_of_length_le (show part.length ≤ q by omega)]; simp
            show _ = _
            rw [e]; exact HMq.out
          go_wp2_with fail
          go_roundw
          case rel => exact ⟨j + 1, by omega, by go_num, HM9, HBq⟩
          case measure => simp [intOf]; omega
    · have j1 : ¬ (j : Int) < (L.length : Int) := by omega
      have HM1 : Hid (∀ W, Below wr.heap.size wr W → ∀ v, v < N → W.cell? ⟨w6.heap.size, v, none⟩ = some (.int .i64 1)) := fun W hW v hv => by
        have h1 := HM.out
        rw [List.take_of_length_le (by omega)] at h1
        rw [cell_of_row _ _ _ _ _ _ ((hW.block _ (Array.getElem?_eq_some_iff.1 h1).1).trans h1), rowF_get hv, HAll.out v hv]; rfl
      clear HM
      go_wp2_with fail
      obtain ⟨W0, hW0⟩ : ∃ X, X = wr := ⟨_, rfl⟩
      subst hW0
      go_loopw [11, 90] (fun _ i wr => ∃ v : Nat, v ≤ N ∧ i = .int .i64 (v : Int) ∧ wr = W0) (fun _ i _ => N - (intOf i).toNat)
      case atStart => exact ⟨0, by omega, rfl, rfl⟩
      case round =>
        obtain ⟨v, hv, rfl, rfl⟩ := hrel
        have v0 : (0 : Int) ≤ (v : Int) := by omega
        by_cases hlv : v < N
        · have v1 : (v : Int) < (N : Int) := by omega
          have f0 := HM1.out wr (Below.refl _ _) v hlv
          go_wp2_with fail
          go_roundw
          case rel => exact ⟨v + 1, by omega, by go_num, trivial⟩
          case measure => simp [intOf]; omega
        · have v1 : ¬ (v : Int) < (N : Int) := by omega
          obtain ⟨k0, k1⟩ := HKw.out wr HB.out
          clear HM1
          go_wp2_with fail
          obtain ⟨W1, hW1⟩ : ∃ X, X = wr := ⟨_, rfl⟩
          subst hW1
          clear k0 k1
          go_loopw [13, 100] (fun _ i wr => ∃ q : Nat, q ≤ m ∧ i = .int .i64 (q : Int) ∧ Hid (Below w6.heap.size w6 wr)) (fun _ i _ => m - (intOf i).toNat)
          case atStart => exact ⟨0, by omega, rfl, HB⟩
          case round =>
            obtain ⟨q, hq, rfl, HBq⟩ := hrel
            have q0 : (0 : Int) ≤ (q : Int) := by omega
            by_cases hlq : q < m
            · have q1 : (q : Int) < (m : Int) := by omega
              obtain ⟨b, o, ua, ub, ne, rfl, hbl, hx, hua, hub, y0, y1, y2⟩ := (HS.out wr (HB1.out.trans ((HQ6.out.trans (HBq.out.mono HQ6.out.size)).mono HB1.out.size))).nedge_at Hw.out hlq
              have hle := HEd.out ua ub (List.mem_map.2 ⟨_, List.mem_of_getElem? hx.out, by simp⟩)
              have hiff := HTp.out ua ub hua hub
              have HB9 : Hid (Below w6.heap.size w6 (wr.alloc (.cells #[.int .i64 (ua : Int), .int .i64 (ub : Int), .bool ne] 32))) := HBq.out.alloc HBq.out.size _
              have e0 : (wr.alloc (.cells #[.int .i64 (ua : Int), .int .i64 (ub : Int), .bool ne] 32)).cell? ⟨wr.heap.size, 0, none⟩ = some (.int .i64 (ua : Int)) := (cell_of_row _ _ 0 _ _ _ (heapNew (w := wr) rfl)).trans rfl
              have e1 : (wr.alloc (.cells #[.int .i64 (ua : Int), .int .i64 (ub : Int), .bool ne] 32)).cell? ⟨wr.heap.size, 1, none⟩ = some (.int .i64 (ub : Int)) := (cell_of_row _ _ 1 _ _ _ (heapNew (w := wr) rfl)).trans rfl
              have HK : Hid (∀ W, Below (wr.alloc (.cells #[.int .i64 (ua : Int), .int .i64 (ub : Int), .bool ne] 32)).heap.size (wr.alloc (.cells #[.int .i64 (ua : Int), .int .i64 (ub : Int), .bool ne] 32)) W → W.cell? ⟨wr.heap.size, 0, none⟩ = some (.int .i64 (ua : Int)) ∧ W.cell? ⟨wr.heap.size, 1, none⟩ = some (.int .i64 (ub : Int)) ∧ W.cell? ⟨R, ua, none⟩ = some (.int .i64 (pl ua : Int)) ∧ W.cell? ⟨R, ub, none⟩ = some (.int .i64 (pl ub : Int)) ∧
                  W.cell? ⟨w.heap.size, 0, none⟩ = some (.int .i64 (N : Int)) ∧ W.cell? ⟨w.heap.size, 1, none⟩ = some (.slice (some ⟨b, o, none⟩) m c) ∧ Below w6.heap.size w6 W) := fun W hW => by
                have h1 : Below w6.heap.size w6 W := HB9.out.trans (hW.mono HB9.out.size)
                have h2 := HKw.out W h1
                exact ⟨below_cell hW e0, below_cell hW e1, HPR.out W h1 ua hua, HPR.out W h1 ub hub, h2.1, h2.2, h1⟩
              have HC := Lib.hid (fun (W : World) (hW : Below (wr.alloc (.cells #[.int .i64 (ua : Int), .int .i64 (ub : Int), .bool ne] 32)).heap.size (wr.alloc (.cells #[.int .i64 (ua : Int), .int .i64 (ub : Int), .bool ne] 32)) W) => HTo.out (ua : Int) (ub : Int) W (HQ6.out.trans (((HK.out W hW).2.2.2.2.2.2).mono HQ6.out.size)))
              simp only [togR_nat] at HC
              have u0 : (0 : Int) ≤ (ua : Int) := by omega
              have u1 : (ua : Int) < (N : Int) := by omega
              have v0' : (0 : Int) ≤ (ub : Int) := by omega
              have v1' : (ub : Int) < (N : Int) := by omega
              have g0 : ¬ (pl ua : Int) < (pl ub : Int) := by omega
              have g1 : ((pl ub : Int) == (pl ua : Int)) = togN N (hasN l) ua ub := by
                rw [Bool.eq_iff_iff, ← hiff]
                simp
                omega
              have g2 : (togN N (hasN l) ua ub != togN N (hasN l) ua ub) = false := by simp
              generalize togN N (hasN l) ua ub = tv at *
              clear hx hle hiff HBq
              go_wp2_with fail
              clear y0 y1 y2 e0 e1
              generalize wr.alloc (.cells #[.int .i64 (ua : Int), .int .i64 (ub : Int), .bool ne] 32) = V2 at *
              refine drawnS mixed _ (Below V2.heap.size V2) rfl (by kernel_rfl) rfl (Below.drew (Below.refl _ _)) ?_
              have hyu : undef = Value.tuple #[] := rfl
              iterate 28
                apply seqS_op
                · intro W hW
                  have k0 := (HK.out W hW).1
                  have k1 := (HK.out W hW).2.1
                  have k2 := (HK.out W hW).2.2.1
                  have k3 := (HK.out W hW).2.2.2.1
                  have k4 := (HK.out W hW).2.2.2.2.1
                  have k5 := (HK.out W hW).2.2.2.2.2.1
                  go_wp2_with fail
                  exact ⟨rfl, rfl, fun d hd => by cases hd; simp only [List.getElem?_toArray, List.getElem?_cons_succ, List.getElem?_cons_zero]; rfl, hW⟩
                simp only [Act.put, List.setIfInBounds_toArray, List.set_cons_succ, List.set_cons_zero]
              apply seqS_op
              · intro W hW
                go_wp2_with fail
                refine (HC.out W hW).mono ?_
                rintro e w1 ⟨rfl, hb1⟩
                go_wp2_with fail
                exact ⟨rfl, rfl, fun d hd => by cases hd; simp only [List.getElem?_toArray, List.getElem?_cons_succ, List.getElem?_cons_zero]; rfl, hW.trans (hb1.mono hW.size)⟩
              simp only [Act.put, List.setIfInBounds_toArray, List.set_cons_succ, List.set_cons_zero]
              iterate 2
                apply seqS_op
                · intro W hW
                  have k0 := (HK.out W hW).1
                  have k1 := (HK.out W hW).2.1
                  have k2 := (HK.out W hW).2.2.1
                  have k3 := (HK.out W hW).2.2.2.1
                  have k4 := (HK.out W hW).2.2.2.2.1
                  have k5 := (HK.out W hW).2.2.2.2.2.1
                  go_wp2_with fail
                  exact ⟨rfl, rfl, fun d hd => by cases hd; simp only [List.getElem?_toArray, List.getElem?_cons_succ, List.getElem?_cons_zero]; rfl, hW⟩
                simp only [Act.put, List.setIfInBounds_toArray, List.set_cons_succ, List.set_cons_zero]
              clear hyu
              apply seqS_end
              intro W hW
              have HE := Lib.hid (HK.out W hW).2.2.2.2.2.2
              clear hW
              go_wp2_with fail
              go_roundw
              case rel => exact ⟨q + 1, by omega, by go_num, HE⟩
              case measure => simp [intOf]; omega
            · have q1 : ¬ (q : Int) < (m : Int) := by omega
              have HE : Hid (Below w.heap.size w wr) := (HB1.out.trans (HQ6.out.mono HB1.out.size)).trans (HBq.out.mono (by have := HB1.out.size; have := HQ6.out.size; omega))
              go_wp2_with fail
              go_ret
              exact ⟨rfl, HE.out⟩
end Go.Proofs.Ytdbpbchhkdconaa
