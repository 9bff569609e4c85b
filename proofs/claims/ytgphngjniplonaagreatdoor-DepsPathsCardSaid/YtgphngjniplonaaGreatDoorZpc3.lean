/- My own texts Shelf3, DgB5, DgB6, as far as this claim needs them. -/
import Derived.Test.YtgphngjniplonaaGreatDoorZpc2
set_option linter.unusedVariables false
set_option linter.unusedSimpArgs false
set_option maxRecDepth 1000000
set_option maxHeartbeats 16000000
namespace Go.Proofs
open Go.Shelf
def Tryz.lays189_ren : Go.Shelf.Ren := ⟨fun | 189 => 49 | 125 => 73 | 257 => 72 | 128 => 107 | 129 => 108 | 294 => 98 | 295 => 99 | 296 => 100 | 297 => 101 | 298 => 102 | 299 => 103 | 216 => 104 | 300 => 105 | 301 => 106 | 328 => 139 | 329 => 140 | 330 => 141 | 331 => 142 | 332 => 143 | 215 => 97 | 343 => 166 | n => n, fun | 28 => 58 | 3 => 3 | 46 => 155 | 0 => 0 | 51 => 185 | 53 => 187 | 4 => 4 | 183 => 178 | 182 => 177 | 131 => 127 | 5 => 5 | 9 => 9 | 218 => 218 | 222 => 222 | 228 => 242 | 229 => 243 | n => n, fun | n => n⟩
theorem Tryz.lays189 : Go.Proofs.Lays.n189 Tryz.prog Tryz.lays189_ren := {
  mixed := by kernel_rfl
  f125 := Tryz.func73.trans (congrArg some (by kernel_rfl))
  f128 := Tryz.func107.trans (congrArg some (by kernel_rfl))
  f129 := Tryz.func108.trans (congrArg some (by kernel_rfl))
  f189 := Tryz.func49.trans (congrArg some (by kernel_rfl))
  f215 := Tryz.func97.trans (congrArg some (by kernel_rfl))
  f216 := Tryz.func104.trans (congrArg some (by kernel_rfl))
  f257 := Tryz.func72.trans (congrArg some (by kernel_rfl))
  f294 := Tryz.func98.trans (congrArg some (by kernel_rfl))
  f295 := Tryz.func99.trans (congrArg some (by kernel_rfl))
  f296 := Tryz.func100.trans (congrArg some (by kernel_rfl))
  f297 := Tryz.func101.trans (congrArg some (by kernel_rfl))
  f298 := Tryz.func102.trans (congrArg some (by kernel_rfl))
  f299 := Tryz.func103.trans (congrArg some (by kernel_rfl))
  f300 := Tryz.func105.trans (congrArg some (by kernel_rfl))
  f301 := Tryz.func106.trans (congrArg some (by kernel_rfl))
  f328 := Tryz.func139.trans (congrArg some (by kernel_rfl))
  f329 := Tryz.func140.trans (congrArg some (by kernel_rfl))
  f330 := Tryz.func141.trans (congrArg some (by kernel_rfl))
  f331 := Tryz.func142.trans (congrArg some (by kernel_rfl))
  f332 := Tryz.func143.trans (congrArg some (by kernel_rfl))
  f343 := Tryz.func166.trans (congrArg some (by kernel_rfl))
  t0 := Tryz.underlying0
  a0 := Tryz.isAgg0
  z0 := Tryz.sizeOf0
  v0 := Tryz.zeroValue0
  t3 := Tryz.underlying3
  a3 := Tryz.isAgg3
  z3 := Tryz.sizeOf3
  v3 := Tryz.zeroValue3
  t4 := Tryz.underlying4
  a4 := Tryz.isAgg4
  z4 := Tryz.sizeOf4
  v4 := Tryz.zeroValue4
  t5 := Tryz.underlying5
  a5 := Tryz.isAgg5
  z5 := Tryz.sizeOf5
  v5 := Tryz.zeroValue5
  t9 := Tryz.underlying9
  a9 := Tryz.isAgg9
  z9 := Tryz.sizeOf9
  v9 := Tryz.zeroValue9
  t28 := Tryz.underlying58
  a28 := Tryz.isAgg58
  z28 := Tryz.sizeOf58
  v28 := Tryz.zeroValue58
  t46 := Tryz.underlying155
  a46 := Tryz.isAgg155
  z46 := Tryz.sizeOf155
  v46 := Tryz.zeroValue155
  t51 := Tryz.underlying185
  a51 := Tryz.isAgg185
  z51 := Tryz.sizeOf185
  v51 := Tryz.zeroValue185
  t53 := Tryz.underlying187
  a53 := Tryz.isAgg187
  z53 := Tryz.sizeOf187
  v53 := Tryz.zeroValue187
  t131 := Tryz.underlying127
  a131 := Tryz.isAgg127
  z131 := Tryz.sizeOf127
  v131 := Tryz.zeroValue127
  t182 := Tryz.underlying177
  a182 := Tryz.isAgg177
  z182 := Tryz.sizeOf177
  v182 := Tryz.zeroValue177
  t183 := Tryz.underlying178
  a183 := Tryz.isAgg178
  z183 := Tryz.sizeOf178
  v183 := Tryz.zeroValue178
  t218 := Tryz.underlying218
  a218 := Tryz.isAgg218
  z218 := Tryz.sizeOf218
  v218 := Tryz.zeroValue218
  t222 := Tryz.underlying222
  a222 := Tryz.isAgg222
  z222 := Tryz.sizeOf222
  v222 := Tryz.zeroValue222
  t228 := Tryz.underlying242
  a228 := Tryz.isAgg242
  z228 := Tryz.sizeOf242
  v228 := Tryz.zeroValue242
  t229 := Tryz.underlying243
  a229 := Tryz.isAgg243
  z229 := Tryz.sizeOf243
  v229 := Tryz.zeroValue243 }
open Go.Sort Go.RowKit in
theorem Tryz.slices_Sort_int (blk off cap : Nat) (zs : List Int) (w : World) (hH : Holds (Value.int .i64) w blk off zs.toArray) (hblk : blk < w.heap.size) (hsz : zs.length < 4611686018427387904) :
    Calls Tryz.prog 49 #[.slice (some ⟨blk, off, none⟩) zs.length cap] w fun e w' =>
      e = .returned (.tuple #[]) ∧ ∃ n os, w' = grow (putRow (Value.int .i64) (Sort.ahead w n) blk off (zs.mergeSort fun x y => decide (x ≤ y)).toArray) os := Any.slices_Sort_int Tryz.lays189 blk off cap zs w hH hblk hsz
def Tryz.lays112_ren : Go.Shelf.Ren := ⟨fun | 112 => 47 | n => n, fun | 28 => 58 | 3 => 3 | 4 => 4 | 0 => 0 | n => n, fun | n => n⟩
theorem Tryz.lays112 : Go.Proofs.Lays.n112 Tryz.prog Tryz.lays112_ren := {
  mixed := by kernel_rfl
  f112 := Tryz.func47.trans (congrArg some (by kernel_rfl))
  t0 := Tryz.underlying0
  a0 := Tryz.isAgg0
  z0 := Tryz.sizeOf0
  v0 := Tryz.zeroValue0
  t3 := Tryz.underlying3
  a3 := Tryz.isAgg3
  z3 := Tryz.sizeOf3
  v3 := Tryz.zeroValue3
  t4 := Tryz.underlying4
  a4 := Tryz.isAgg4
  z4 := Tryz.sizeOf4
  v4 := Tryz.zeroValue4
  t28 := Tryz.underlying58
  a28 := Tryz.isAgg58
  z28 := Tryz.sizeOf58
  v28 := Tryz.zeroValue58 }
open Go.RowKit Go.Lib Go.Sort in
theorem Tryz.slices_Reverse_int_cells (b off n c : Nat) (zs : List Int) (w : World) (hz : n ≤ zs.length) (hbig : n ≤ 9223372036854775807) (hc : ∀ j, j < zs.length → w.cell? ⟨b, off + j, none⟩ = some (.int .i64 (zs.getD j 0))) (hf : ∀ j, j < n → w.frozen? ⟨b, off + j, none⟩ = false) :
    Calls Tryz.prog 47 #[.slice (some ⟨b, off, none⟩) n c] w fun e w' => e = .returned (.tuple #[]) ∧ ∃ q, w' = (w.drewN q).setCells b off ((zs.take n).reverse.map (Value.int .i64)) := Any.slices_Reverse_int_cells Tryz.lays112 b off n c zs w hz hbig hc hf
end Go.Proofs

namespace Go.Proofs.YtgphngjniplonaaGreatDoor
open Go.RowKit
def hasN (l : List GEdge) (a b : Nat) : Bool := hasL l (a : Int) (b : Int)
theorem info_bool : (Tryz.prog.info? 4).map (fun i => (i.zero, i.size, i.bytes)) = some (some (.bool false), 1, 1) := by kernel_rfl
def anyN (f : Nat → Bool) (i : Nat) : Bool := (List.range i).any f
theorem anyN_succ (f : Nat → Bool) (i : Nat) : anyN f (i + 1) = (anyN f i || f i) := by simp [anyN, List.range_succ]
def rowB (s : Nat → Bool) (n : Nat) : Array Value := rowV (fun v => .bool (s v)) n
theorem rowB_made (n : Nat) : madeCells #[.bool false] n = rowB (fun _ => false) n := rowV_made _ _
theorem rowB_get {s : Nat → Bool} {n x : Nat} (hx : x < n) : (rowB s n)[x]? = some (.bool (s x)) := rowV_get hx
theorem rowB_set (s : Nat → Bool) (n x : Nat) (v : Bool) : (rowB s n).setIfInBounds x (.bool v) = rowB (fun y => if y = x then v else s y) n := by
  unfold rowB
  rw [rowV_set]
  exact rowV_congr fun y _ => by
    show (if y = x then Value.bool v else Value.bool (s y)) = Value.bool (if y = x then v else s y)
    split <;> rfl
theorem rowB_congr {s t : Nat → Bool} {n : Nat} (h : ∀ x, x < n → s x = t x) : rowB s n = rowB t n := rowV_congr fun x hx => by rw [h x hx]
theorem rowB_step (T1 T0 : Nat → Bool) (n j : Nat) {v : Bool} (hv : T1 j = v) : (rowB (fun y => if y < j then T1 y else T0 y) n).setIfInBounds j (.bool v) = rowB (fun y => if y < j + 1 then T1 y else T0 y) n := by
  rw [rowB_set]
  refine rowB_congr fun y _ => ?_
  by_cases h : y = j
  · subst h; rw [if_pos rfl, if_pos (by omega), hv]
  · rw [if_neg h]
    by_cases h2 : y < j
    · rw [if_pos h2, if_pos (by omega)]
    · rw [if_neg h2, if_neg (by omega)]
section
variable {N : Nat} {has : Nat → Nat → Bool} {a b : Nat}
theorem far_found {k : Nat} (hk : k < N) (h : stepsN N has a (k + 1) b = true) (h0 : ∀ j, j < k → stepsN N has a (j + 1) b = false) : farN N has a b = k + 1 := by
  unfold farN
  have e : (List.range N).find? (fun k => stepsN N has a (k + 1) b) = some k := List.find?_range_eq_some.2 ⟨h, List.mem_range.2 hk, fun j hj => by simp [h0 j hj]⟩
  rw [e]
  rfl
theorem far_none (h0 : ∀ j, j < N → stepsN N has a (j + 1) b = false) : farN N has a b = 0 := by
  unfold farN
  rw [List.find?_eq_none.2 (fun j hj => by simp [h0 j (List.mem_range.1 hj)])]
  rfl
end
theorem refFar_any (N : Nat) (hN : N ≤ 1000) (A : Option Addr) (m c : Nat) (l : List GEdge) (a b : Nat) (ha : a < N) (hb : b < N) (w : World) (h : SliceIs Enc.edge w w.heap.size A m c l) :
    Calls Tryz.prog 50 #[.agg #[.int .i64 (N : Int), .slice A m c], .int .i64 (a : Int), .int .i64 (b : Int)] w (RetInt (farN N (hasN l) a b : Int) w) := by
  have hmk := run_make_row' (P := Tryz.prog) 156 4 (.bool false) 1 Tryz.underlying156 info_bool rfl .i64 .i64 N (by omega) (by omega) (w.alloc (.cells #[.int .i64 (N : Int), .slice A m c] 35))
  rw [rowB_made] at hmk
  have HH := Lib.hid (fun (x y : Nat) (W : World) (hW : Below w.heap.size w W) => refHas_any (N : Int) A m c l (x : Int) (y : Int) W (h.mono hW.size hW.block))
  obtain ⟨r, Hr⟩ : ∃ r, Hid (farN N (hasN l) a b = r) := ⟨_, rfl⟩
  rw [Hr.out]
  have HF : Hid (∀ k, k < N → stepsN N (hasN l) a (k + 1) b = true → (∀ j, j < k → stepsN N (hasN l) a (j + 1) b = false) → r = k + 1) := fun k hk h1 h2 => by rw [← Hr.out]; exact far_found hk h1 h2
  have HZ : Hid ((∀ j, j < N → stepsN N (hasN l) a (j + 1) b = false) → r = 0) := fun h0 => by rw [← Hr.out]; exact far_none h0
  have a0 : (0 : Int) ≤ (a : Int) := by omega
  have a1 : (a : Int) < (N : Int) := by omega
  have a2 : ¬ (a : Int) < 0 := by omega
  have a3 : ¬ (N : Int) ≤ (a : Int) := by omega
  have b0 : (0 : Int) ≤ (b : Int) := by omega
  have b1 : (b : Int) < (N : Int) := by omega
  have b2 : ¬ (b : Int) < 0 := by omega
  have b3 : ¬ (N : Int) ≤ (b : Int) := by omega
  have hyu : undef = Value.tuple #[] := rfl
  clear h Hr
  have cg0 : (w.alloc (.cells #[.int .i64 (N : Int), .slice A m c] 35)).cell? ⟨w.heap.size, 0, none⟩ = some (.int .i64 (N : Int)) := (cell_of_row _ _ 0 _ _ _ (heapNew (w := w) rfl)).trans rfl
  have cg1 : ((w.alloc (.cells #[.int .i64 (N : Int), .slice A m c] 35)).alloc (.cells (rowB (fun _ => false) N) 4)).cell? ⟨w.heap.size, 0, none⟩ = some (.int .i64 (N : Int)) := cellA cg0
  have cg2 : ((w.alloc (.cells #[.int .i64 (N : Int), .slice A m c] 35)).alloc (.cells (rowB (fun _ => false) N) 4)).cell? ⟨w.heap.size + 1, a, none⟩ = some (.bool false) := by
    rw [cell_of_row _ _ _ _ _ _ (heapNew (by simp)), rowB_get ha]
  have cg3 : ((w.alloc (.cells #[.int .i64 (N : Int), .slice A m c] 35)).alloc (.cells (rowB (fun _ => false) N) 4)).frozen? ⟨w.heap.size + 1, a, none⟩ = false := frozen_of_row _ _ _ _ _ (heapNew (by simp))
  go_enter Tryz.func50, Tryz.ntmps50
  go_wp2_with fail
  clear hmk hyu
  have hb0 : Below w.heap.size w ((w.alloc (.cells #[.int .i64 (N : Int), .slice A m c] 35)).alloc (.cells ((rowB (fun _ => false) N).setIfInBounds a (.bool true)) 4)) := belowA (belowA (Below.refl _ _) _) _
  have hg0 : ((w.alloc (.cells #[.int .i64 (N : Int), .slice A m c] 35)).alloc (.cells ((rowB (fun _ => false) N).setIfInBounds a (.bool true)) 4)).heap[w.heap.size]? = some (.cells #[.int .i64 (N : Int), .slice A m c] 35 (0, 0)) := heapOld (heapNew rfl)
  have hr0 : ((w.alloc (.cells #[.int .i64 (N : Int), .slice A m c] 35)).alloc (.cells ((rowB (fun _ => false) N).setIfInBounds a (.bool true)) 4)).heap[w.heap.size + 1]? = some (.cells (rowB (stepsN N (hasN l) a 0) N) 4 (0, 0)) := by
    rw [heapNew (by simp), rowB_set]
    refine congrArg some (congrArg (fun x => Obj.cells x 4 (0, 0)) (rowB_congr fun y _ => ?_))
    by_cases hy : y = a
    · subst hy; simp [stepsN]
    · simp [stepsN, hy]
  generalize (w.alloc (.cells #[.int .i64 (N : Int), .slice A m c] 35)).alloc (.cells ((rowB (fun _ => false) N).setIfInBounds a (.bool true)) 4) = V at hb0 hg0 hr0 ⊢
  have hRlt : w.heap.size < w.heap.size + 1 := by omega
  generalize w.heap.size + 1 = R0 at *
  have HB0 := Lib.hid hb0
  have HG0 := Lib.hid hg0
  have HR0 := Lib.hid hr0
  clear hb0 hg0 hr0 cg0 cg1 cg2 cg3
  go_loopw [7, 8, 9, 10, 11] (fun s i _ _ _ wr => ∃ k q R : Nat, k ≤ N ∧ i = .int .i64 (q : Int) ∧ s = .slice (some ⟨R, 0, none⟩) N N ∧ Hid (q = k + 1) ∧ w.heap.size < R ∧ Hid (wr.heap[R]? = some (.cells (rowB (stepsN N (hasN l) a k) N) 4 (0, 0))) ∧ Hid (wr.heap[w.heap.size]? = some (.cells #[.int .i64 (N : Int), .slice A m c] 35 (0, 0))) ∧ Hid (∀ j, j < k → stepsN N (hasN l) a (j + 1) b = false) ∧ Hid (Below w.heap.size w wr)) (fun _ i _ _ _ _ => N + 1 - (intOf i).toNat)
  case atStart => exact ⟨0, 1, R0, by omega, rfl, rfl, rfl, hRlt, HR0, HG0, (fun j hj => by omega), HB0⟩
  case round =>
    obtain ⟨k, q, R, hk, rfl, rfl, Hq, hR, HR, HG, HV, HB⟩ := hrel
    have q0 : (0 : Int) ≤ (q : Int) := by omega
    have hqk : q ≤ N + 1 := by rw [Hq.out]; omega
    have c0 : wr.cell? ⟨w.heap.size, 0, none⟩ = some (.int .i64 (N : Int)) := (cell_of_row _ _ 0 _ _ _ HG.out).trans rfl
    by_cases hlt : k < N
    · have i1 : (q : Int) ≤ (N : Int) := by have := Hq.out; omega
      have hmk := run_make_row' (P := Tryz.prog) 156 4 (.bool false) 1 Tryz.underlying156 info_bool rfl .i64 .i64 N (by omega) (by omega) wr
      rw [rowB_made] at hmk
      go_wp2_with fail
      have hb0 : Below wr.heap.size wr (wr.alloc (.cells (rowB (fun _ => false) N) 4)) := belowA (Below.refl _ _) _
      have hr0 : (wr.alloc (.cells (rowB (fun _ => false) N) 4)).heap[wr.heap.size]? = some (.cells (rowB (fun v => anyN (fun x => stepsN N (hasN l) a k x && hasN l x v) 0) N) 4 (0, 0)) := heapNew rfl
      generalize wr.alloc (.cells (rowB (fun _ => false) N) 4) = V1 at hb0 hr0 hmk ⊢
      have HB1 := Lib.hid hb0
      have HR1 := Lib.hid hr0
      clear hb0 hr0 hmk c0
      obtain ⟨W0, hW0⟩ : ∃ X, X = wr := ⟨_, rfl⟩
      subst hW0
      have hsz := HB.out.size
      have hRl := (Array.getElem?_eq_some_iff.1 HR.out).1
      go_loopw [10, 11] (fun x _ wr => ∃ i : Nat, i ≤ N ∧ x = .int .i64 (i : Int) ∧ Hid (wr.heap[W0.heap.size]? = some (.cells (rowB (fun v => anyN (fun x => stepsN N (hasN l) a k x && hasN l x v) i) N) 4 (0, 0))) ∧ Hid (Below W0.heap.size W0 wr)) (fun x _ _ => N - (intOf x).toNat)
      case atStart => exact ⟨0, by omega, rfl, HR1, HB1⟩
      case round =>
        obtain ⟨i, hi, rfl, HRi, HBi⟩ := hrel
        have j0 : (0 : Int) ≤ (i : Int) := by omega
        have c0 : wr.cell? ⟨w.heap.size, 0, none⟩ = some (.int .i64 (N : Int)) := (cell_of_row _ _ 0 _ _ _ ((HBi.out.block _ (by omega)).trans HG.out)).trans rfl
        by_cases hli : i < N
        · have j1 : (i : Int) < (N : Int) := by omega
          go_wp2_with fail
          obtain ⟨W1, hW1⟩ : ∃ X, X = wr := ⟨_, rfl⟩
          subst hW1
          clear c0
          have HRi2 : Hid (W1.heap[W0.heap.size]? = some (.cells (rowB (fun v => if v < 0 then anyN (fun x => stepsN N (hasN l) a k x && hasN l x v) (i + 1) else anyN (fun x => stepsN N (hasN l) a k x && hasN l x v) i) N) 4 (0, 0))) := by
            show _ = _
            rw [HRi.out]
            congr 2
          go_loopw [11] (fun y wr => ∃ j : Nat, j ≤ N ∧ y = .int .i64 (j : Int) ∧ Hid (wr.heap[W0.heap.size]? = some (.cells (rowB (fun v => if v < j then anyN (fun x => stepsN N (hasN l) a k x && hasN l x v) (i + 1) else anyN (fun x => stepsN N (hasN l) a k x && hasN l x v) i) N) 4 (0, 0))) ∧ Hid (Below W0.heap.size W0 wr)) (fun y _ => N - (intOf y).toNat)
          case atStart => exact ⟨0, by omega, rfl, HRi2, HBi⟩
          case round =>
            obtain ⟨j, hj, rfl, HRj, HBj⟩ := hrel
            have y0 : (0 : Int) ≤ (j : Int) := by omega
            have hbw : Hid (Below w.heap.size w wr) := HB.out.trans (HBj.out.mono hsz)
            have hgr := (HBj.out.block w.heap.size (by omega)).trans HG.out
            have c0 : wr.cell? ⟨w.heap.size, 0, none⟩ = some (.int .i64 (N : Int)) := (cell_of_row _ _ 0 _ _ _ hgr).trans rfl
            have c1 : wr.cell? ⟨w.heap.size, 1, none⟩ = some (.slice A m c) := (cell_of_row _ _ 1 _ _ _ hgr).trans rfl
            by_cases hlj : j < N
            · have y1 : (j : Int) < (N : Int) := by omega
              have d0 : wr.cell? ⟨W0.heap.size, j, none⟩ = some (.bool (anyN (fun x => stepsN N (hasN l) a k x && hasN l x j) i)) := by
                rw [cell_of_row _ _ _ _ _ _ HRj.out, rowB_get hlj, if_neg (by omega)]
              have f0 : wr.frozen? ⟨W0.heap.size, j, none⟩ = false := frozen_of_row _ _ _ _ _ HRj.out
              have d1 : wr.cell? ⟨R, i, none⟩ = some (.bool (stepsN N (hasN l) a k i)) := by
                rw [cell_of_row _ _ _ _ _ _ ((HBj.out.block R hRl).trans HR.out), rowB_get hli]
              have HT : Hid (anyN (fun x => stepsN N (hasN l) a k x && hasN l x j) (i + 1) = (anyN (fun x => stepsN N (hasN l) a k x && hasN l x j) i || (stepsN N (hasN l) a k i && hasN l i j))) := anyN_succ _ _
              have HN : Hid (∀ (W : World) (v : Bool), W.heap[W0.heap.size]? = wr.heap[W0.heap.size]? → Below W0.heap.size W0 W → anyN (fun x => stepsN N (hasN l) a k x && hasN l x j) (i + 1) = v →
                  (W.setCell ⟨W0.heap.size, j, none⟩ (.bool v)).heap[W0.heap.size]? = some (.cells (rowB (fun v => if v < j + 1 then anyN (fun x => stepsN N (hasN l) a k x && hasN l x v) (i + 1) else anyN (fun x => stepsN N (hasN l) a k x && hasN l x v) i) N) 4 (0, 0)) ∧ Below W0.heap.size W0 (W.setCell ⟨W0.heap.size, j, none⟩ (.bool v))) := by
                intro W v h1 h2 h3
                refine ⟨?_, h2.setCell (Nat.le_refl _) _⟩
                rw [set_cell8 (h1.trans HRj.out)]
                exact congrArg some (congrArg (fun x => Obj.cells x 4 (0, 0)) (rowB_step (fun v => anyN (fun x => stepsN N (hasN l) a k x && hasN l x v) (i + 1)) (fun v => anyN (fun x => stepsN N (hasN l) a k x && hasN l x v) i) N j h3))
              have hlz := (Array.getElem?_eq_some_iff.1 HRj.out).1
              have hyu : undef = Value.tuple #[] := rfl
              cases hT : anyN (fun x => stepsN N (hasN l) a k x && hasN l x j) i with
              | true =>
                rw [hT] at d0 HT
                have HE := Lib.hid (HN.out wr true rfl HBj.out (by rw [HT.out]; rfl))
                clear hT HT HN hgr c1 HRj HBj
                generalize stepsN N (hasN l) a k i = si at *
                go_wp2_with fail
                go_roundw
                case rel => exact ⟨j + 1, by omega, by go_num, HE.out.1, HE.out.2⟩
                case measure => simp [intOf]; omega
              | false =>
                rw [hT] at d0 HT
                cases hS : stepsN N (hasN l) a k i with
                | false =>
                  rw [hS] at d1 HT
                  have HE := Lib.hid (HN.out wr false rfl HBj.out (by rw [HT.out]; rfl))
                  clear hT HT HN hgr c1 HRj HBj hS
                  go_wp2_with fail
                  go_roundw
                  case rel => exact ⟨j + 1, by omega, by go_num, HE.out.1, HE.out.2⟩
                  case measure => simp [intOf]; omega
                | true =>
                  rw [hS] at d1 HT
                  have HC := Lib.hid (HH.out i j wr hbw.out)
                  have HHN : Hid (hasL l (i : Int) (j : Int) = hasN l i j) := rfl
                  rw [HHN.out] at HC
                  have HT2 : Hid (anyN (fun x => stepsN N (hasN l) a k x && hasN l x j) (i + 1) = hasN l i j) := by show _ = _; rw [HT.out]; simp
                  generalize hasN l i j = hv at HC HT2
                  clear hT HT hgr hS hbw HHN
                  go_wp2_with fail
                  refine HC.out.mono ?_
                  rintro e w1 ⟨rfl, hb1⟩
                  have d2 := below_cell hb1 d0
                  have hrow1 := hb1.block W0.heap.size hlz
                  have f1 : w1.frozen? ⟨W0.heap.size, j, none⟩ = false := frozen_of_row _ _ _ _ _ (hrow1.trans HRj.out)
                  have HE := Lib.hid (HN.out w1 hv hrow1 (HBj.out.trans (hb1.mono HBj.out.size)) HT2.out)
                  clear hb1 hrow1 HN HT2 c0 c1 d0 f0 d1 HRj HBj
                  go_wp2_with fail
                  go_roundw
                  case rel => exact ⟨j + 1, by omega, by go_num, HE.out.1, HE.out.2⟩
                  case measure => simp [intOf]; omega
            · have y1 : ¬ (j : Int) < (N : Int) := by omega
              have HE : Hid (wr.heap[W0.heap.size]? = some (.cells (rowB (fun v => anyN (fun x => stepsN N (hasN l) a k x && hasN l x v) (i + 1)) N) 4 (0, 0))) := by
                show _ = _
                rw [HRj.out]
                congr 2
                refine rowB_congr fun v hv => ?_
                rw [if_pos (by omega)]
              clear hgr c1 HRj
              go_wp2_with fail
              go_roundw
              case rel => exact ⟨i + 1, by omega, by go_num, HE, HBj⟩
              case measure => simp [intOf]; omega
        · have j1 : ¬ (i : Int) < (N : Int) := by omega
          obtain rfl : i = N := by omega
          have hrow : Hid (wr.heap[W0.heap.size]? = some (.cells (rowB (stepsN i (hasN l) a (k + 1)) i) 4 (0, 0))) := HRi.out
          have d0 : wr.cell? ⟨W0.heap.size, b, none⟩ = some (.bool (stepsN i (hasN l) a (k + 1) b)) := by
            rw [cell_of_row _ _ _ _ _ _ hrow.out, rowB_get hb]
          have HB2 : Hid (Below w.heap.size w wr) := HB.out.trans (HBi.out.mono hsz)
          have HG2 : Hid (wr.heap[w.heap.size]? = some (.cells #[.int .i64 (i : Int), .slice A m c] 35 (0, 0))) := (HBi.out.block _ (by omega)).trans HG.out
          have hRn : w.heap.size < W0.heap.size := by omega
          cases hS : stepsN i (hasN l) a (k + 1) b with
          | true =>
            rw [hS] at d0
            have e := HF.out k hlt hS HV.out
            obtain rfl : q = r := by rw [e, Hq.out]
            clear HRi HBi HR HG hS e
            go_wp2_with fail
            go_ret
            exact ⟨rfl, HB2.out⟩
          | false =>
            rw [hS] at d0
            have HV2 : Hid (∀ j, j < k + 1 → stepsN i (hasN l) a (j + 1) b = false) := fun j hj => by
              rcases Nat.lt_or_ge j k with hh | hh
              · exact HV.out j hh
              · obtain rfl : j = k := by omega
                exact hS
            have Hq2 : Hid (q + 1 = k + 1 + 1) := by show _ = _; rw [Hq.out]
            clear HRi HBi HR HG hS
            go_wp2_with fail
            go_roundw
            case rel => exact ⟨k + 1, q + 1, _, by omega, by go_num, rfl, Hq2, hRn, hrow, HG2, HV2, HB2⟩
            case measure => simp [intOf]; omega
    · have i1 : ¬ (q : Int) ≤ (N : Int) := by have := Hq.out; omega
      obtain rfl : r = 0 := HZ.out (fun j hj => HV.out j (by omega))
      go_wp2_with fail
      go_ret
      exact ⟨rfl, HB.out⟩
end Go.Proofs.YtgphngjniplonaaGreatDoor
namespace Go.Proofs.YtgphngjniplonaaGreatDoor
open Go.RowKit
theorem okE_within {n : Int} {l : List GEdge} {k : Nat} {x : GEdge} (h : okE n l k = true) (hx : l[k]? = some x) : withinE x n = true := by
  unfold okE at h
  rw [hx] at h
  simp only [Bool.and_eq_true] at h
  exact h.1
theorem rightG_mem {n : Int} {l : List GEdge} (h : rightG n l = true) {x : GEdge} (hx : x ∈ l) : withinE x n = true := by
  simp only [rightG, Bool.and_eq_true, List.all_eq_true, List.mem_range] at h
  obtain ⟨i, hi⟩ := List.mem_iff_getElem?.1 hx
  exact okE_within (h.2 i (List.getElem?_eq_some_iff.1 hi).1) hi
end Go.Proofs.YtgphngjniplonaaGreatDoor
namespace Go.Proofs.YtgphngjniplonaaGreatDoor
open Go.RowKit Go.Sort
def natC (n : Nat) : Value := .int .i64 (n : Int)
theorem sortN_any (B b n c : Nat) (l : List Nat) (w : World) (h : w.ownsRow B 3 1 (.slice (some ⟨b, 0, none⟩) n c) n (l.map natC)) (hn : n ≤ 1000000) : Calls Tryz.prog 49 #[.slice (some ⟨b, 0, none⟩) n c] w
    (fun e w' => e = .returned (.tuple #[]) ∧ ∃ q : List Nat, q.Perm l ∧ q.Pairwise (· ≤ ·) ∧ w'.ownsRow B 3 1 (.slice (some ⟨b, 0, none⟩) n c) n (q.map natC) ∧ Out [b] w w') := by
  have hl : (l.map Int.ofNat).length = n := by have := h.1; simpa using this
  have hcs : (l.map Int.ofNat).toArray.toList.map (Value.int .i64) = l.map natC := by rw [List.toList_toArray, List.map_map]; rfl
  have hH := own_holds (enc := Value.int .i64) (d := (l.map Int.ofNat).toArray) h hcs
  have hb : b < w.heap.size := (own_blk h rfl).2
  have hS := Tryz.slices_Sort_int b 0 c (l.map Int.ofNat) w hH hb (by omega)
  rw [hl] at hS
  refine hS.mono ?_
  rintro e w' ⟨rfl, k, os, rfl⟩
  refine ⟨rfl, ((l.map Int.ofNat).mergeSort fun x y => decide (x ≤ y)).map Int.toNat, ?_, ?_, ?_⟩
  · have h1 := (List.mergeSort_perm (l.map Int.ofNat) (fun x y => decide (x ≤ y))).map Int.toNat
    rw [List.map_map] at h1
    have e1 : l.map (Int.toNat ∘ Int.ofNat) = l := by
      conv => rhs; rw [← List.map_id l]
      exact List.map_congr_left (fun x _ => by simp)
    rw [e1] at h1
    exact h1
  · have h2 := List.pairwise_mergeSort (le := fun (x y : Int) => decide (x ≤ y)) (by intro a b c h1 h2; simp at *; omega) (by intro a b; simp; omega) (l.map Int.ofNat)
    rw [List.pairwise_map]
    exact h2.imp (fun hh => by simp at hh; omega)
  · have hsz : ((l.map Int.ofNat).mergeSort fun x y => decide (x ≤ y)).toArray.size = n := by simp [List.length_mergeSort]; have := h.1; simpa using this
    have h3 := own_sorted (enc := Value.int .i64) (d := ((l.map Int.ofNat).mergeSort fun x y => decide (x ≤ y)).toArray) (k := k) (os := os) h hsz
    have e2 : (((l.map Int.ofNat).mergeSort fun x y => decide (x ≤ y)).map Int.toNat).map natC = ((l.map Int.ofNat).mergeSort fun x y => decide (x ≤ y)).toArray.toList.map (Value.int .i64) := by
      rw [List.map_map, List.toList_toArray]
      apply List.map_congr_left
      intro x hx
      obtain ⟨y, -, rfl⟩ := List.mem_map.1 ((List.mergeSort_perm _ _).mem_iff.1 hx)
      rfl
    rw [e2]
    exact h3
end Go.Proofs.YtgphngjniplonaaGreatDoor
namespace Go.Proofs.YtgphngjniplonaaGreatDoor
open Go.RowKit
theorem right_in {N : Nat} {l : List GEdge} (hr : rightG (N : Int) l = true) : ∀ e ∈ l, withinE e (N : Int) = true := fun _ he => rightG_mem hr he
end Go.Proofs.YtgphngjniplonaaGreatDoor
namespace Go.Proofs.YtgphngjniplonaaGreatDoor
open Go.RowKit
theorem boxG (n : Int) (A : Option Addr) (m c : Nat) (w : World) : Below w.heap.size w (w.alloc (.cells #[.int .i64 n, .slice A m c] 31)) ∧ (w.alloc (.cells #[.int .i64 n, .slice A m c] 31)).cell? ⟨w.heap.size, 0, none⟩ = some (.int .i64 n) ∧ (w.alloc (.cells #[.int .i64 n, .slice A m c] 31)).cell? ⟨w.heap.size, 1, none⟩ = some (.slice A m c) :=
  ⟨belowA (Below.refl _ _) _, (cell_of_row _ _ 0 _ _ _ (heapNew (w := w) rfl)).trans rfl, (cell_of_row _ _ 1 _ _ _ (heapNew (w := w) rfl)).trans rfl⟩
end Go.Proofs.YtgphngjniplonaaGreatDoor
namespace Go.Proofs.YtgphngjniplonaaGreatDoor
open Go.RowKit
end Go.Proofs.YtgphngjniplonaaGreatDoor
namespace Go.Proofs.YtgphngjniplonaaGreatDoor
open Go.RowKit
theorem info_redge : (Tryz.prog.info? 49).map (fun i => (i.zero, i.size, i.bytes)) = some (some (.agg #[.int .i64 0, .int .i64 0, .bool false]), 3, 24) := by kernel_rfl
end Go.Proofs.YtgphngjniplonaaGreatDoor

namespace Go.Proofs.YtgphngjniplonaaGreatDoor
open Go.RowKit
def largeB (n : Int) (m : Nat) : Bool := decide (60 < m) || (decide (12 < n) && decide (n ≤ 32))
theorem large_any (n : Int) (A : Option Addr) (m c : Nat) (w : World) : Calls Tryz.prog 22 #[graphV n A m c] w (RetBool (largeB n m) w) := by
  obtain ⟨hb0, c0, c1⟩ := boxG n A m c w
  have HB0 := Lib.hid hb0
  have hyu : undef = Value.tuple #[] := rfl
  clear hb0
  by_cases h1 : 60 < m
  · have i1 : (60 : Int) < (m : Int) := by omega
    rw [show largeB n m = true by simp [largeB, h1]]
    go_enter Tryz.func22, Tryz.ntmps22
    go_wp2_with fail
    go_ret
    exact ⟨rfl, HB0.out⟩
  · have i1 : ¬ (60 : Int) < (m : Int) := by omega
    by_cases h2 : (12 : Int) < n
    · by_cases h3 : n ≤ 32
      · rw [show largeB n m = true by simp [largeB, h2, h3]]
        go_enter Tryz.func22, Tryz.ntmps22
        go_wp2_with fail
        go_ret
        exact ⟨rfl, HB0.out⟩
      · rw [show largeB n m = false by simp [largeB, h1, h3]]
        go_enter Tryz.func22, Tryz.ntmps22
        go_wp2_with fail
        go_ret
        exact ⟨rfl, HB0.out⟩
    · rw [show largeB n m = false by simp [largeB, h1, h2]]
      go_enter Tryz.func22, Tryz.ntmps22
      go_wp2_with fail
      go_ret
      exact ⟨rfl, HB0.out⟩
def DocPost (n : Int) (l : List GEdge) (w : World) (e : Ending) (w' : World) : Prop :=
  ∃ A c, e = .returned (.agg #[.int .i64 n, .slice A l.length c]) ∧ SliceIs Enc.edge w' w'.heap.size A l.length c l ∧ Below w.heap.size w w'
theorem document_any (n : Int) (A : Option Addr) (m c : Nat) (l : List GEdge) (w : World) (h : SliceIs Enc.edge w w.heap.size A m c l) (hm : m ≤ 10000) : Calls Tryz.prog 13 #[graphV n A m c] w (DocPost n l w) := by
  have HS := Lib.hid h
  have hlen : l.length = m := h.1
  have Hlen := Lib.hid hlen
  obtain ⟨P, HP⟩ : ∃ P : Ending → World → Prop, Hid (P = DocPost n l w) := ⟨_, rfl⟩
  rw [← HP.out]
  have cg0 : ((w.alloc (.cells #[.int .i64 n, .slice A m c] 31)).alloc (.cells #[.int .i64 0, .slice none 0 0] 35)).cell? ⟨w.heap.size, 0, none⟩ = some (.int .i64 n) := cellA ((cell_of_row _ _ 0 _ _ _ (heapNew (w := w) rfl)).trans rfl)
  clear h hlen
  go_enter Tryz.func13, Tryz.ntmps13
  have cg1 : (((w.alloc (.cells #[.int .i64 n, .slice A m c] 31)).alloc (.cells #[.int .i64 0, .slice none 0 0] 35)).alloc (.cells #[.int .i64 n, .slice none 0 0] 35)).cell? ⟨w.heap.size, 1, none⟩ = some (.slice A m c) := cellA (cellA ((cell_of_row _ _ 1 _ _ _ (heapNew (w := w) rfl)).trans rfl))
  go_wp2_with fail
  have hb0 : Below w.heap.size w (((w.alloc (.cells #[.int .i64 n, .slice A m c] 31)).alloc (.cells #[.int .i64 0, .slice none 0 0] 35)).alloc (.cells #[.int .i64 n, .slice none 0 0] 35)) := belowA (belowA (belowA (Below.refl _ _) _) _) _
  have hg2 : (((w.alloc (.cells #[.int .i64 n, .slice A m c] 31)).alloc (.cells #[.int .i64 0, .slice none 0 0] 35)).alloc (.cells #[.int .i64 n, .slice none 0 0] 35)).heap[w.heap.size + 1 + 1]? = some (.cells #[.int .i64 n, .slice none 0 0] 35 (0, 0)) := heapNew (by simp)
  have hg1 : (((w.alloc (.cells #[.int .i64 n, .slice A m c] 31)).alloc (.cells #[.int .i64 0, .slice none 0 0] 35)).alloc (.cells #[.int .i64 n, .slice none 0 0] 35)).heap[w.heap.size + 1]? = some (.cells #[.int .i64 0, .slice none 0 0] 35 (0, 0)) := heapOld (heapNew (by simp))
  generalize ((w.alloc (.cells #[.int .i64 n, .slice A m c] 31)).alloc (.cells #[.int .i64 0, .slice none 0 0] 35)).alloc (.cells #[.int .i64 n, .slice none 0 0] 35) = V at *
  have hlt1 : w.heap.size + 1 < w.heap.size + 1 + 1 := by omega
  have hlt0 : w.heap.size < w.heap.size + 1 := by omega
  generalize w.heap.size + 1 + 1 = r2 at *
  generalize w.heap.size + 1 = r1 at *
  have hV2 := (Array.getElem?_eq_some_iff.1 hg2).1
  have HB0 := Lib.hid hb0
  have HG1 := Lib.hid hg1
  have HG2 := Lib.hid hg2
  clear hb0 hg1 hg2 cg0 cg1
  go_loopw [5, 12] (fun _ i wr => ∃ (k : Nat) (Ao : Option Addr) (co : Nat), k ≤ m ∧ i = .int .i64 (k : Int) ∧ Hid (wr.heap[r2]? = some (.cells #[.int .i64 n, .slice Ao k co] 35 (0, 0))) ∧ Hid (wr.heap[r1]? = some (.cells #[.int .i64 0, .slice none 0 0] 35 (0, 0))) ∧ Hid (RowOf Enc.edge wr V.heap.size 49 (r1 :: r2 :: blkOf Ao) Ao k co (l.take k)) ∧ Hid (Below w.heap.size w wr) ∧ V.heap.size ≤ wr.heap.size) (fun _ i _ => m - (intOf i).toNat)
  case atStart => exact ⟨0, none, 0, by omega, rfl, HG2, HG1, RowOf.nil _, HB0, Nat.le_refl _⟩
  case round =>
    obtain ⟨k, Ao, co, hk, rfl, HR2, HR1, HRo, HB, hz⟩ := hrel
    have i0 : (0 : Int) ≤ (k : Int) := by omega
    by_cases hlt : k < m
    · have i1 : (k : Int) < (m : Int) := by omega
      obtain ⟨b, o, x, rfl, -, hx, x0, x1, x2, hfx⟩ := (HS.out.below HB.out).edge_at hlt
      have hAo : ∀ b ∈ blkOf Ao, V.heap.size ≤ b := fun b hb => (HRo.out.blk hb).1
      have hb1 : Below wr.heap.size wr (wr.alloc (.cells #[.int .i64 x.a, .int .i64 x.b, .bool x.n] 71)) := belowA (Below.refl _ _) _
      have hb2 : Below wr.heap.size wr ((wr.alloc (.cells #[.int .i64 x.a, .int .i64 x.b, .bool x.n] 71)).alloc (.cells #[.int .i64 x.a, .int .i64 x.b, .bool x.n] 49)) := belowA hb1 _
      have e0 : (wr.alloc (.cells #[.int .i64 x.a, .int .i64 x.b, .bool x.n] 71)).cell? ⟨wr.heap.size, 0, none⟩ = some (.int .i64 x.a) := (cell_of_row _ _ 0 _ _ _ (heapNew (w := wr) rfl)).trans rfl
      have e1 : (wr.alloc (.cells #[.int .i64 x.a, .int .i64 x.b, .bool x.n] 71)).cell? ⟨wr.heap.size, 1, none⟩ = some (.int .i64 x.b) := (cell_of_row _ _ 1 _ _ _ (heapNew (w := wr) rfl)).trans rfl
      have e2 : (wr.alloc (.cells #[.int .i64 x.a, .int .i64 x.b, .bool x.n] 71)).cell? ⟨wr.heap.size, 2, none⟩ = some (.bool x.n) := (cell_of_row _ _ 2 _ _ _ (heapNew (w := wr) rfl)).trans rfl
      have e3 : (wr.alloc (.cells #[.int .i64 x.a, .int .i64 x.b, .bool x.n] 71)).cell? ⟨r2, 1, none⟩ = some (.slice Ao k co) := cellA ((cell_of_row _ _ 1 _ _ _ HR2.out).trans rfl)
      have ha := HRo.out.below hb2
      have hok : Enc.edge.ok (sans ((wr.alloc (.cells #[.int .i64 x.a, .int .i64 x.b, .bool x.n] 71)).alloc (.cells #[.int .i64 x.a, .int .i64 x.b, .bool x.n] 49)) (r1 :: r2 :: blkOf Ao)) ((wr.alloc (.cells #[.int .i64 x.a, .int .i64 x.b, .bool x.n] 71)).alloc (.cells #[.int .i64 x.a, .int .i64 x.b, .bool x.n] 49)).heap.size [.int .i64 x.a, .int .i64 x.b, .bool x.n] x := ⟨rfl, hfx⟩
      obtain ⟨A2, c2, w2, u2, q2, o2, p2⟩ := ha.push (P := Tryz.prog) (t := 33) (ty := 33) Tryz.underlying33 info_redge rfl rfl (by decide) _ (wr.heap.size + 1) [.int .i64 x.a, .int .i64 x.b, .bool x.n] (heapNew (by simp)) hok (by intro u hu; simp at hu; rcases hu with rfl | rfl | rfl <;> rfl) (by simp [maxLen]; omega) (by omega) (by simp; omega) (fun b hb => List.mem_cons_of_mem _ (List.mem_cons_of_mem _ hb))
      have U2 := Lib.hid u2
      have hr2l := (Array.getElem?_eq_some_iff.1 HR2.out).1
      have hr2n : r2 ∉ blkOf Ao := fun hh => by have := hAo _ hh; omega
      have hr1n : r1 ∉ blkOf Ao := fun hh => by have := hAo _ hh; omega
      have hrow2 : w2.heap[r2]? = some (.cells #[.int .i64 n, .slice Ao k co] 35 (0, 0)) := (o2.block _ (by simp; omega) hr2n).trans (heapOld (heapOld HR2.out))
      have hrow1 : w2.heap[r1]? = some (.cells #[.int .i64 0, .slice none 0 0] 35 (0, 0)) := (o2.block _ (by simp; omega) hr1n).trans (heapOld (heapOld HR1.out))
      have d1 : w2.cell? ⟨r2, 1, none⟩ = some (.slice Ao k co) := (cell_of_row _ _ 1 _ _ _ hrow2).trans rfl
      have f1 : w2.frozen? ⟨r2, 1, none⟩ = false := frozen_of_row _ _ _ _ _ hrow2
      have hA2 : r2 ∉ blkOf A2 := fun hh => by
        rcases p2 _ hh with h3 | h3
        · exact hr2n h3
        · simp at h3; omega
      have HR2' : Hid ((w2.setCell ⟨r2, 1, none⟩ (.slice A2 (k + 1) c2)).heap[r2]? = some (.cells #[.int .i64 n, .slice A2 (k + 1) c2] 35 (0, 0))) := by
        show _ = _
        rw [set_cell8 hrow2]; rfl
      have HR1' : Hid ((w2.setCell ⟨r2, 1, none⟩ (.slice A2 (k + 1) c2)).heap[r1]? = some (.cells #[.int .i64 0, .slice none 0 0] 35 (0, 0))) := (World.heap_setCells_other' (show r1 ≠ r2 from by omega)).trans hrow1
      have HRo' : Hid (RowOf Enc.edge (w2.setCell ⟨r2, 1, none⟩ (.slice A2 (k + 1) c2)) V.heap.size 49 (r1 :: r2 :: blkOf A2) A2 (k + 1) c2 (l.take (k + 1))) := by
        have h1 := q2 (r1 :: r2 :: blkOf A2) (fun b hb hlt => by
          rcases List.mem_cons.1 hb with hb | hb
          · exact List.mem_cons.2 (.inl hb)
          · rcases List.mem_cons.1 hb with hb | hb
            · exact List.mem_cons_of_mem _ (List.mem_cons.2 (.inl hb))
            · rcases p2 b hb with hh | hh
              · exact List.mem_cons_of_mem _ (List.mem_cons_of_mem _ hh)
              · omega)
        have e : l.take (k + 1) = l.take k ++ [x] := by rw [List.take_add_one, hx.out]; rfl
        show RowOf _ _ _ _ _ _ _ _ _
        rw [e]
        exact h1.out (set_out w2 r2 1 _) (fun b hb hh => by simp at hh; subst hh; exact hA2 hb) (fun b hb _ => by simp at hb; simp [hb]) (fun b hb _ => hb)
      have HB' : Hid (Below w.heap.size w (w2.setCell ⟨r2, 1, none⟩ (.slice A2 (k + 1) c2))) := ((HB.out.trans (hb2.mono HB.out.size)).trans (o2.below (fun b hb => by have := hAo b hb; omega) (by have := HB.out.size; simp; omega))).setCell (show w.heap.size ≤ r2 from by omega) _
      have hz' : V.heap.size ≤ (w2.setCell ⟨r2, 1, none⟩ (.slice A2 (k + 1) c2)).heap.size := by have := o2.size; simp at this ⊢; omega
      clear hx hAo hb1 hb2 ha hok u2 q2 o2 p2 hr2n hr1n hrow2 hrow1 hA2 HR2 HR1 HRo HB hfx
      go_wp2_with (at_builtin; refine wpList_append_run (o := ⟨some 20, _, _, _, _, _⟩) rfl _ _ _ rfl _ _ rfl rfl U2.out ?_)
      go_roundw
      case rel => exact ⟨k + 1, A2, c2, by omega, by go_num, HR2', HR1', HRo', HB', hz'⟩
      case measure => simp [intOf]; omega
    · have i1 : ¬ (k : Int) < (m : Int) := by omega
      obtain rfl : k = m := by omega
      have d0 : wr.cell? ⟨r2, 0, none⟩ = some (.int .i64 n) := (cell_of_row _ _ 0 _ _ _ HR2.out).trans rfl
      have d1 : wr.cell? ⟨r2, 1, none⟩ = some (.slice Ao k co) := (cell_of_row _ _ 1 _ _ _ HR2.out).trans rfl
      have hrow1 := HR1.out
      have hsl := HRo.out.slice (T := [r1]) (by simp [reachN]; omega) (fun b hb hh => by have := (HRo.out.blk hb).1; simp at hh; omega) (fun b hh _ => by simp at hh; simp [hh])
      rw [List.take_of_length_le (by rw [Hlen.out]; omega)] at hsl
      have g1 : wr.cell? ⟨r1, 0, none⟩ = some (.int .i64 0) := (cell_of_row _ _ 0 _ _ _ hrow1).trans rfl
      have g2 : wr.cell? ⟨r1, 1, none⟩ = some (.slice none 0 0) := (cell_of_row _ _ 1 _ _ _ hrow1).trans rfl
      have f1 : ∀ o, wr.frozen? ⟨r1, o, none⟩ = false := fun o => frozen_of_row _ _ _ _ _ hrow1
      have f2 := f1 0
      have f3 := f1 1
      have HE : Hid (P (.returned (.agg #[.int .i64 n, .slice Ao k co])) ((wr.setCell ⟨r1, 0, none⟩ (.int .i64 n)).setCell ⟨r1, 1, none⟩ (.slice Ao k co))) := by
        show P _ _
        rw [HP.out]
        have ho : Out [r1] wr ((wr.setCell ⟨r1, 0, none⟩ (.int .i64 n)).setCell ⟨r1, 1, none⟩ (.slice Ao k co)) := (set_out wr r1 0 _).trans (set_out _ r1 1 _) (fun b hb _ => hb)
        have h9 := (SliceFar.out hsl ho (fun b hb _ => hb) (fun b hb _ => hb) : SliceFar Enc.edge _ [r1] Ao k co l).is
        unfold DocPost
        rw [Hlen.out]
        exact ⟨Ao, co, rfl, h9, HB.out.trans (ho.below (fun b hb => by simp at hb; omega) HB.out.size)⟩
      have hrw : ((wr.setCell ⟨r1, 0, none⟩ (.int .i64 n)).setCell ⟨r1, 1, none⟩ (.slice Ao k co)).heap[r1]? = some (.cells #[.int .i64 n, .slice Ao k co] 35 (0, 0)) := (set_cell8 (set_cell8 hrow1)).trans rfl
      have hx0 : ((wr.setCell ⟨r1, 0, none⟩ (.int .i64 n)).setCell ⟨r1, 1, none⟩ (.slice Ao k co)).cell? ⟨r1, 0, none⟩ = some (.int .i64 n) := (cell_of_row _ _ 0 _ _ _ hrw).trans rfl
      have hx1 : ((wr.setCell ⟨r1, 0, none⟩ (.int .i64 n)).setCell ⟨r1, 1, none⟩ (.slice Ao k co)).cell? ⟨r1, 1, none⟩ = some (.slice Ao k co) := (cell_of_row _ _ 1 _ _ _ hrw).trans rfl
      clear hsl hrow1 f1 hrw HR1 HR2 HRo
      go_wp2_with fail
      refine bodyPost_ret (v := .agg #[.int .i64 n, .slice Ao k co]) ?_ rfl HE.out
      simp [results, Tryz.results13, go_sem, hx0, hx1]
end Go.Proofs.YtgphngjniplonaaGreatDoor
namespace Go.Proofs.YtgphngjniplonaaGreatDoor
open Go.RowKit
end Go.Proofs.YtgphngjniplonaaGreatDoor
namespace Go.Proofs.YtgphngjniplonaaGreatDoor
theorem right_next {n : Int} {l : List GEdge} (hr : rightG n l = true) {j : Nat} {p x : GEdge} (hp : l[j]? = some p) (hx : l[j + 1]? = some x) : lessE p x = true := by
  simp only [rightG, Bool.and_eq_true, List.all_eq_true, List.mem_range] at hr
  have h := hr.2 (j + 1) (List.getElem?_eq_some_iff.1 hx).1
  unfold okE at h
  rw [hx] at h
  simp only [hp, Bool.and_eq_true] at h
  exact h.2
theorem right_less {n : Int} {l : List GEdge} (hr : rightG n l = true) {i : Nat} {p : GEdge} (hp : l[i]? = some p) : ∀ (d : Nat) {x : GEdge}, l[i + 1 + d]? = some x → lessE p x = true
  | 0, _, hx => right_next hr hp hx
  | d + 1, x, hx => by
    have hlt := (List.getElem?_eq_some_iff.1 hx).1
    have hy : l[i + 1 + d]? = some (l[i + 1 + d]'(by omega)) := List.getElem?_eq_getElem _
    exact lessE_trans (right_less hr hp d hy) (right_next hr hy hx)
end Go.Proofs.YtgphngjniplonaaGreatDoor
