/- The document's Far: how far a node is from another one. -/
import Derived.Test.YtdbpbchhkdconaaScHas
import Derived.Test.YtdbpbchhkdconaaScRow
import Derived.Test.YtdbpbchhkdconaaMa1
namespace Go.Proofs.Ytdbpbchhkdconaa
open Go.RowKit

def hasN (l : List GEdge) (a b : Nat) : Bool := hasL l (a : Int) (b : Int)
theorem info_bool : (Try.prog.info? 4).map (fun i => (i.zero, i.size, i.bytes)) = some (some (.bool false), 1, 1) := by kernel_rfl
def anyN (f : Nat → Bool) (i : Nat) : Bool := (List.range i).any f
theorem anyN_succ (f : Nat → Bool) (i : Nat) : anyN f (i + 1) = (anyN f i || f i) := by simp [anyN, List.range_succ]
theorem anyN_zero (f : Nat → Bool) : anyN f 0 = false := rfl
theorem steps_succ (N : Nat) (has : Nat → Nat → Bool) (a k y : Nat) : stepsN N has a (k + 1) y = anyN (fun x => stepsN N has a k x && has x y) N := rfl
def rowB (s : Nat → Bool) (n : Nat) : Array Value := rowV (fun v => .bool (s v)) n
theorem rowB_made (n : Nat) : madeCells #[.bool false] n = rowB (fun _ => false) n := rowV_made _ _
theorem rowB_get {s : Nat → Bool} {n x : Nat} (hx : x < n) : (rowB s n)[x]? = some (.bool (s x)) := rowV_get hx
theorem rowB_set (s : Nat → Bool) (n x : Nat) (v : Bool) : (rowB s n).setIfInBounds x (.bool v) = rowB (fun y => if y = x then v else s y) n := by
  unfold rowB
  rw [rowV_set]
  exact rowV_congr fun y _ => by
    show (if y = x then Value.bool v else Value.bool (s y)) = Value.bool (if y = x then v else s y)
    split <;> rfl
theorem rowB_congr {s t : Nat → Bool} {n : Nat} (h : ∀ x, x < n → s x = t x) : rowB s n = rowB t n := rowV_congr fun x hx => by rw [h x hx]
theorem rowB_step (T1 T0 : Nat → Bool) (n j : Nat) {v : Bool} (hv : T1 j = v) : (rowB (fun y => if y < j then T1 y else T0 y) n).setIfInBounds j (.bool v) = rowB (fun y => if y < j + 1 then T1 y else T0 y) n := by
  rw [rowB_set]
  refine rowB_congr fun y _ => ?_
  by_cases h : y = j
  · subst h; rw [if_pos rfl, if_pos (by omega), hv]
  · rw [if_neg h]
    by_cases h2 : y < j
    · rw [if_pos h2, if_pos (by omega)]
    · rw [if_neg h2, if_neg (by omega)]
section
variable {N : Nat} {has : Nat → Nat → Bool} {a b : Nat}
theorem far_found {k : Nat} (hk : k < N) (h : stepsN N has a (k + 1) b = true) (h0 : ∀ j, j < k → stepsN N has a (j + 1) b = false) : farN N has a b = k + 1 := by
  unfold farN
  have e : (List.range N).find? (fun k => stepsN N has a (k + 1) b) = some k := List.find?_range_eq_some.2 ⟨h, List.mem_range.2 hk, fun j hj => by simp [h0 j hj]⟩
  rw [e]
  rfl
theorem far_none (h0 : ∀ j, j < N → stepsN N has a (j + 1) b = false) : farN N has a b = 0 := by
  unfold farN
  rw [List.find?_eq_none.2 (fun j hj => by simp [h0 j (List.mem_range.1 hj)])]
  rfl
end

set_option maxRecDepth 100000 in
set_option maxHeartbeats 8000000 in
theorem refFar_any (N : Nat) (hN : N ≤ 1000) (A : Option Addr) (m c : Nat) (l : List GEdge) (a b : Nat) (ha : a < N) (hb : b < N) (w : World) (h : SliceIs Enc.edge w w.heap.size A m c l) :
    Calls Try.prog 39 #[.agg #[.int .i64 (N : Int), .slice A m c], .int .i64 (a : Int), .int .i64 (b : Int)] w (RetInt (farN N (hasN l) a b : Int) w) := by
  have hmk := run_make_row' (P := Try.prog) 64 4 (.bool false) 1 Try.underlying64 info_bool rfl .i64 .i64 N (by omega) (by omega) (w.alloc (.cells #[.int .i64 (N : Int), .slice A m c] 36))
  rw [rowB_made] at hmk
  have HH := Lib.hid (fun (x y : Nat) (W : World) (hW : Below w.heap.size w W) => refHas_any (N : Int) A m c l (x : Int) (y : Int) W (h.mono hW.size hW.block))
  obtain ⟨r, Hr⟩ : ∃ r, Hid (farN N (hasN l) a b = r) := ⟨_, rfl⟩
  rw [Hr.out]
  have HF : Hid (∀ k, k < N → stepsN N (hasN l) a (k + 1) b = true → (∀ j, j < k → stepsN N (hasN l) a (j + 1) b = false) → r = k + 1) := fun k hk h1 h2 => by rw [← Hr.out]; exact far_found hk h1 h2
  have HZ : Hid ((∀ j, j < N → stepsN N (hasN l) a (j + 1) b = false) → r = 0) := fun h0 => by rw [← Hr.out]; exact far_none h0
  have a0 : (0 : Int) ≤ (a : Int) := by omega
  have a1 : (a : Int) < (N : Int) := by omega
  have a2 : ¬ (a : Int) < 0 := by omega
  have a3 : ¬ (N : Int) ≤ (a : Int) := by omega
  have b0 : (0 : Int) ≤ (b : Int) := by omega
  have b1 : (b : Int) < (N : Int) := by omega
  have b2 : ¬ (b : Int) < 0 := by omega
  have b3 : ¬ (N : Int) ≤ (b : Int) := by omega
  have hyu : undef = Value.tuple #[] := rfl
  clear h Hr
  have cg0 : (w.alloc (.cells #[.int .i64 (N : Int), .slice A m c] 36)).cell? ⟨w.heap.size, 0, none⟩ = some (.int .i64 (N : Int)) := (cell_of_row _ _ 0 _ _ _ (heapNew (w := w) rfl)).trans rfl
  have cg1 : ((w.alloc (.cells #[.int .i64 (N : Int), .slice A m c] 36)).alloc (.cells (rowB (fun _ => false) N) 4)).cell? ⟨w.heap.size, 0, none⟩ = some (.int .i64 (N : Int)) := cellA cg0
  have cg2 : ((w.alloc (.cells #[.int .i64 (N : Int), .slice A m c] 36)).alloc (.cells (rowB (fun _ => false) N) 4)).cell? ⟨w.heap.size + 1, a, none⟩ = some (.bool false) := by
    rw [cell_of_row _ _ _ _ _ _ (heapNew (by simp)), rowB_get ha]
  have cg3 : ((w.alloc (.cells #[.int .i64 (N : Int), .slice A m c] 36)).alloc (.cells (rowB (fun _ => false) N) 4)).frozen? ⟨w.heap.size + 1, a, none⟩ = false := frozen_of_row _ _ _ _ _ (heapNew (by simp))
  go_enter Try.func39, Try.ntmps39
  go_wp2_with fail
  clear hmk hyu
  have hb0 : Below w.heap.size w ((w.alloc (.cells #[.int .i64 (N : Int), .slice A m c] 36)).alloc (.cells ((rowB (fun _ => false) N).setIfInBounds a (.bool true)) 4)) := belowA (belowA (Below.refl _ _) _) _
  have hg0 : ((w.alloc (.cells #[.int .i64 (N : Int), .slice A m c] 36)).alloc (.cells ((rowB (fun _ => false) N).setIfInBounds a (.bool true)) 4)).heap[w.heap.size]? = some (.cells #[.int .i64 (N : Int), .slice A m c] 36 (0, 0)) := heapOld (heapNew rfl)
  have hr0 : ((w.alloc (.cells #[.int .i64 (N : Int), .slice A m c] 36)).alloc (.cells ((rowB (fun _ => false) N).setIfInBounds a (.bool true)) 4)).heap[w.heap.size + 1]? = some (.cells (rowB (stepsN N (hasN l) a 0) N) 4 (0, 0)) := by
    rw [heapNew (by simp), rowB_set]
    refine congrArg some (congrArg (fun x => Obj.cells x 4 (0, 0)) (rowB_congr fun y _ => ?_))
    by_cases hy : y = a
    · subst hy; simp [stepsN]
    · simp [stepsN, hy]
  generalize (w.alloc (.cells #[.int .i64 (N : Int), .slice A m c] 36)).alloc (.cells ((rowB (fun _ => false) N).setIfInBounds a (.bool true)) 4) = V at hb0 hg0 hr0 ⊢
  have hRlt : w.heap.size < w.heap.size + 1 := by omega
  generalize w.heap.size + 1 = R0 at *
  have HB0 := Lib.hid hb0
  have HG0 := Lib.hid hg0
  have HR0 := Lib.hid hr0
  clear hb0 hg0 hr0 cg0 cg1 cg2 cg3
  go_loopw [7, 8, 9, 10, 11] (fun s i _ _ _ wr => ∃ k q R : Nat, k ≤ N ∧ i = .int .i64 (q : Int) ∧ s = .slice (some ⟨R, 0, none⟩) N N ∧ Hid (q = k + 1) ∧ w.heap.size < R ∧ Hid (wr.heap[R]? = some (.cells (rowB (stepsN N (hasN l) a k) N) 4 (0, 0))) ∧ Hid (wr.heap[w.heap.size]? = some (.cells #[.int .i64 (N : Int), .slice A m c] 36 (0, 0))) ∧ Hid (∀ j, j < k → stepsN N (hasN l) a (j + 1) b = false) ∧ Hid (Below w.heap.size w wr)) (fun _ i _ _ _ _ => N + 1 - (intOf i).toNat)
  case atStart => exact ⟨0, 1, R0, by omega, rfl, rfl, rfl, hRlt, HR0, HG0, (fun j hj => by omega), HB0⟩
  case round =>
    obtain ⟨k, q, R, hk, rfl, rfl, Hq, hR, HR, HG, HV, HB⟩ := hrel
    have q0 : (0 : Int) ≤ (q : Int) := by omega
    have hqk : q ≤ N + 1 := by rw [Hq.out]; omega
    have c0 : wr.cell? ⟨w.heap.size, 0, none⟩ = some (.int .i64 (N : Int)) := (cell_of_row _ _ 0 _ _ _ HG.out).trans rfl
    by_cases hlt : k < N
    · have i1 : (q : Int) ≤ (N : Int) := by have := Hq.out; omega
      have hmk := run_make_row' (P := Try.prog) 64 4 (.bool false) 1 Try.underlying64 info_bool rfl .i64 .i64 N (by omega) (by omega) wr
      rw [rowB_made] at hmk
      go_wp2_with fail
      have hb0 : Below wr.heap.size wr (wr.alloc (.cells (rowB (fun _ => false) N) 4)) := belowA (Below.refl _ _) _
      have hr0 : (wr.alloc (.cells (rowB (fun _ => false) N) 4)).heap[wr.heap.size]? = some (.cells (rowB (fun v => anyN (fun x => stepsN N (hasN l) a k x && hasN l x v) 0) N) 4 (0, 0)) := heapNew rfl
      generalize wr.alloc (.cells (rowB (fun _ => false) N) 4) = V1 at hb0 hr0 hmk ⊢
      have HB1 := Lib.hid hb0
      have HR1 := Lib.hid hr0
      clear hb0 hr0 hmk c0
      obtain ⟨W0, hW0⟩ : ∃ X, X = wr := ⟨_, rfl⟩
      subst hW0
      have hsz := HB.out.size
      have hRl := (Array.getElem?_eq_some_iff.1 HR.out).1
      go_loopw [10, 11] (fun x _ wr => ∃ i : Nat, i ≤ N ∧ x = .int .i64 (i : Int) ∧ Hid (wr.heap[W0.heap.size]? = some (.cells (rowB (fun v => anyN (fun x => stepsN N (hasN l) a k x && hasN l x v) i) N) 4 (0, 0))) ∧ Hid (Below W0.heap.size W0 wr)) (fun x _ _ => N - (intOf x).toNat)
      case atStart => exact ⟨0, by omega, rfl, HR1, HB1⟩
      case round =>
        obtain ⟨i, hi, rfl, HRi, HBi⟩ := hrel
        have j0 : (0 : Int) ≤ (i : Int) := by omega
        have c0 : wr.cell? ⟨w.heap.size, 0, none⟩ = some (.int .i64 (N : Int)) := (cell_of_row _ _ 0 _ _ _ ((HBi.out.block _ (by omega)).trans HG.out)).trans rfl
        by_cases hli : i < N
        · have j1 : (i : Int) < (N : Int) := by omega
          go_wp2_with fail
          obtain ⟨W1, hW1⟩ : ∃ X, X = wr := ⟨_, rfl⟩
          subst hW1
          clear c0
          have HRi2 : Hid (W1.heap[W0.heap.size]? = some (.cells (rowB (fun v => if v < 0 then anyN (fun x => stepsN N (hasN l) a k x && hasN l x v) (i + 1) else anyN (fun x => stepsN N (hasN l) a k x && hasN l x v) i) N) 4 (0, 0))) := by
            show _ = _
            rw [HRi.out]
            congr 2
          go_loopw [11] (fun y wr => ∃ j : Nat, j ≤ N ∧ y = .int .i64 (j : Int) ∧ Hid (wr.heap[W0.heap.size]? = some (.cells (rowB (fun v => if v < j then anyN (fun x => stepsN N (hasN l) a k x && hasN l x v) (i + 1) else anyN (fun x => stepsN N (hasN l) a k x && hasN l x v) i) N) 4 (0, 0))) ∧ Hid (Below W0.heap.size W0 wr)) (fun y _ => N - (intOf y).toNat)
          case atStart => exact ⟨0, by omega, rfl, HRi2, HBi⟩
          case round =>
            obtain ⟨j, hj, rfl, HRj, HBj⟩ := hrel
            have y0 : (0 : Int) ≤ (j : Int) := by omega
            have hbw : Hid (Below w.heap.size w wr) := HB.out.trans (HBj.out.mono hsz)
            have hgr := (HBj.out.block w.heap.size (by omega)).trans HG.out
            have c0 : wr.cell? ⟨w.heap.size, 0, none⟩ = some (.int .i64 (N : Int)) := (cell_of_row _ _ 0 _ _ _ hgr).trans rfl
            have c1 : wr.cell? ⟨w.heap.size, 1, none⟩ = some (.slice A m c) := (cell_of_row _ _ 1 _ _ _ hgr).trans rfl
            by_cases hlj : j < N
            · have y1 : (j : Int) < (N : Int) := by omega
              have d0 : wr.cell? ⟨W0.heap.size, j, none⟩ = some (.bool (anyN (fun x => stepsN N (hasN l) a k x && hasN l x j) i)) := by
                rw [cell_of_row _ _ _ _ _ _ HRj.out, rowB_get hlj, if_neg (by omega)]
              have f0 : wr.frozen? ⟨W0.heap.size, j, none⟩ = false := frozen_of_row _ _ _ _ _ HRj.out
              have d1 : wr.cell? ⟨R, i, none⟩ = some (.bool (stepsN N (hasN l) a k i)) := by
                rw [cell_of_row _ _ _ _ _ _ ((HBj.out.block R hRl).trans HR.out), rowB_get hli]
              have HT : Hid (anyN (fun x => stepsN N (hasN l) a k x && hasN l x j) (i + 1) = (anyN (fun x => stepsN N (hasN l) a k x && hasN l x j) i || (stepsN N (hasN l) a k i && hasN l i j))) := anyN_succ _ _
              have HN : Hid (∀ (W : World) (v : Bool), W.heap[W0.heap.size]? = wr.heap[W0.heap.size]? → Below W0.heap.size W0 W → anyN (fun x => stepsN N (hasN l) a k x && hasN l x j) (i + 1) = v →
                  (W.setCell ⟨W0.heap.size, j, none⟩ (.bool v)).heap[W0.heap.size]? = some (.cells (rowB (fun v => if v < j + 1 then anyN (fun x => stepsN N (hasN l) a k x && hasN l x v) (i + 1) else anyN (fun x => stepsN N (hasN l) a k x && hasN l x v) i) N) 4 (0, 0)) ∧ Below W0.heap.size W0 (W.setCell ⟨W0.heap.size, j, none⟩ (.bool v))) := by
                intro W v h1 h2 h3
                refine ⟨?_, h2.setCell (Nat.le_refl _) _⟩
                rw [set_cell8 (h1.trans HRj.out)]
                exact congrArg some (congrArg (fun x => Obj.cells x 4 (0, 0)) (rowB_step (fun v => anyN (fun x => stepsN N (hasN l) a k x && hasN l x v) (i + 1)) (fun v => anyN (fun x => stepsN N (hasN l) a k x && hasN l x v) i) N j h3))
              have hlz := (Array.getElem?_eq_some_iff.1 HRj.out).1
              have hyu : undef = Value.tuple #[] := rfl
              cases hT : anyN (fun x => stepsN N (hasN l) a k x && hasN l x j) i with
              | true =>
                rw [hT] at d0 HT
                have HE := Lib.hid (HN.out wr true rfl HBj.out (by rw [HT.out]; rfl))
                clear hT HT HN hgr c1 HRj HBj
                generalize stepsN N (hasN l) a k i = si at *
                go_wp2_with fail
                go_roundw
                case rel => exact ⟨j + 1, by omega, by go_num, HE.out.1, HE.out.2⟩
                case measure => simp [intOf]; omega
              | false =>
                rw [hT] at d0 HT
                cases hS : stepsN N (hasN l) a k i with
                | false =>
                  rw [hS] at d1 HT
                  have HE := Lib.hid (HN.out wr false rfl HBj.out (by rw [HT.out]; rfl))
                  clear hT HT HN hgr c1 HRj HBj hS
                  go_wp2_with fail
                  go_roundw
                  case rel => exact ⟨j + 1, by omega, by go_num, HE.out.1, HE.out.2⟩
                  case measure => simp [intOf]; omega
                | true =>
                  rw [hS] at d1 HT
                  have HC := Lib.hid (HH.out i j wr hbw.out)
                  have HHN : Hid (hasL l (i : Int) (j : Int) = hasN l i j) := rfl
                  rw [HHN.out] at HC
                  have HT2 : Hid (anyN (fun x => stepsN N (hasN l) a k x && hasN l x j) (i + 1) = hasN l i j) := by show _ = _; rw [HT.out]; simp
                  generalize hasN l i j = hv at HC HT2
                  clear hT HT hgr hS hbw HHN
                  go_wp2_with fail
                  refine HC.out.mono ?_
                  rintro e w1 ⟨rfl, hb1⟩
                  have d2 := below_cell hb1 d0
                  have hrow1 := hb1.block W0.heap.size hlz
                  have f1 : w1.frozen? ⟨W0.heap.size, j, none⟩ = false := frozen_of_row _ _ _ _ _ (hrow1.trans HRj.out)
                  have HE := Lib.hid (HN.out w1 hv hrow1 (HBj.out.trans (hb1.mono HBj.out.size)) HT2.out)
                  clear hb1 hrow1 HN HT2 c0 c1 d0 f0 d1 HRj HBj
                  go_wp2_with fail
                  go_roundw
                  case rel => exact ⟨j + 1, by omega, by go_num, HE.out.1, HE.out.2⟩
                  case measure => simp [intOf]; omega
            · have y1 : ¬ (j : Int) < (N : Int) := by omega
              have HE : Hid (wr.heap[W0.heap.size]? = some (.cells (rowB (fun v => anyN (fun x => stepsN N (hasN l) a k x && hasN l x v) (i + 1)) N) 4 (0, 0))) := by
                show _ = _
                rw [HRj.out]
                congr 2
                refine rowB_congr fun v hv => ?_
                rw [if_pos (by omega)]
              clear hgr c1 HRj
              go_wp2_with fail
              go_roundw
              case rel => exact ⟨i + 1, by omega, by go_num, HE, HBj⟩
              case measure => simp [intOf]; omega
        · have j1 : ¬ (i : Int) < (N : Int) := by omega
          obtain rfl : i = N := by omega
          have hrow : Hid (wr.heap[W0.heap.size]? = some (.cells (rowB (stepsN i (hasN l) a (k + 1)) i) 4 (0, 0))) := HRi.out
          have d0 : wr.cell? ⟨W0.heap.size, b, none⟩ = some (.bool (stepsN i (hasN l) a (k + 1) b)) := by
            rw [cell_of_row _ _ _ _ _ _ hrow.out, rowB_get hb]
          have HB2 : Hid (Below w.heap.size w wr) := HB.out.trans (HBi.out.mono hsz)
          have HG2 : Hid (wr.heap[w.heap.size]? = some (.cells #[.int .i64 (i : Int), .slice A m c] 36 (0, 0))) := (HBi.out.block _ (by omega)).trans HG.out
          have hRn : w.heap.size < W0.heap.size := by omega
          cases hS : stepsN i (hasN l) a (k + 1) b with
          | true =>
            rw [hS] at d0
            have e := HF.out k hlt hS HV.out
            obtain rfl : q = r := by rw [e, Hq.out]
            clear HRi HBi HR HG hS e
            go_wp2_with fail
            go_ret
            exact ⟨rfl, HB2.out⟩
          | false =>
            rw [hS] at d0
            have HV2 : Hid (∀ j, j < k + 1 → stepsN i (hasN l) a (j + 1) b = false) := fun j hj => by
              rcases Nat.lt_or_ge j k with hh | hh
              · exact HV.out j hh
              · obtain rfl : j = k := by omega
                exact hS
            have Hq2 : Hid (q + 1 = k + 1 + 1) := by show _ = _; rw [Hq.out]
            clear HRi HBi HR HG hS
            go_wp2_with fail
            go_roundw
            case rel => exact ⟨k + 1, q + 1, _, by omega, by go_num, rfl, Hq2, hRn, hrow, HG2, HV2, HB2⟩
            case measure => simp [intOf]; omega
    · have i1 : ¬ (q : Int) ≤ (N : Int) := by have := Hq.out; omega
      obtain rfl : r = 0 := HZ.out (fun j hj => HV.out j (by omega))
      go_wp2_with fail
      go_ret
      exact ⟨rfl, HB.out⟩
end Go.Proofs.Ytdbpbchhkdconaa
