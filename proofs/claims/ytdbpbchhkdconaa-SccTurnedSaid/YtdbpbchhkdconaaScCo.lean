/- scc.Components: the walk. -/
import Derived.Test.YtdbpbchhkdconaaScEm
import Derived.Test.YtdbpbchhkdconaaScSf
import Derived.Test.YtdbpbchhkdconaaScWw
namespace Go.Proofs.Ytdbpbchhkdconaa
open Go.RowKit

def CoPost (N : Nat) (l : List GEdge) (w : World) (e : Ending) (w' : World) : Prop :=
  ∃ A k c, e = .returned (.slice A k c) ∧ SliceIs (Enc.slice Enc.nat) w' w'.heap.size A k c (compsF N (eN l) (togN N (hasN l)) N (fun _ => false)) ∧ Below w.heap.size w w'
theorem run_delete_nil (w : World) (ty : TypeId) (x : Int) : (Builtin.delete_ #[56, 3] ty #[.map none, .int .i64 x]).run Try.prog w = .ok (.tuple #[]) w := by
  simp [Builtin.delete_, run_underlying under_map, run_checkKey_strN under_int]
theorem eql_map_nil (w : World) : (binOp .eql 56 (.map none) (.map none)).run Try.prog w = .ok (.bool true) w := by kernel_rfl
theorem eql_map_some (g : Nat) (w : World) : (binOp .eql 56 (.map (some g)) (.map none)).run Try.prog w = .ok (.bool false) w := by kernel_rfl
def emit (em : Nat → Bool) (i : Nat) : Nat → Bool := fun v => em v || decide (v = i)
theorem WRow.congr {w : World} {B R n : Nat} {g : Nat → Nat} {on on' : Nat → Bool} {f : Nat → Nat → Nat} (h : WRow w B R n g on f) (he : ∀ i, i < n → on i = on' i) : WRow w B R n g on' f :=
  ⟨by rw [h.row]; exact congrArg some (congrArg (fun x => Obj.cells x 56 (0, 0)) (rowV_congr fun x hx => by rw [he x hx])), h.ge, fun i hi ho => h.maps i hi (by rw [he i hi]; exact ho), fun i j hi hj ho ho' => h.one i j hi hj (by rw [he i hi]; exact ho) (by rw [he j hj]; exact ho')⟩
theorem emit_len (em : Nat → Bool) {j : Nat} (hj : em j = false) : ∀ k, j < k → ((List.range k).filter (emit em j)).length = ((List.range k).filter em).length + 1
  | 0, h => by omega
  | k + 1, h => by
    rw [List.range_succ, List.filter_append, List.filter_append, List.length_append, List.length_append]
    by_cases hk : j = k
    · subst hk
      have e : (List.range j).filter (emit em j) = (List.range j).filter em := List.filter_congr fun x hx => by
        have := List.mem_range.1 hx
        unfold emit
        rw [decide_eq_false (by omega), Bool.or_false]
      rw [e, List.filter_cons_of_pos (by simp [emit]), List.filter_cons_of_neg (by simp [hj])]
      rfl
    · rw [emit_len em hj k (by omega)]
      have e : [k].filter (emit em j) = [k].filter em := List.filter_congr fun x hx => by
        simp at hx; subst hx
        unfold emit
        rw [decide_eq_false (by omega), Bool.or_false]
      rw [e]; omega
theorem WRow.conv {w : World} {B R n : Nat} {g : Nat → Nat} {on : Nat → Bool} {f f' : Nat → Nat → Nat} (h : WRow w B R n g on f) (he : ∀ i, i < n → on i = true → ∀ v, f i v = f' i v) : WRow w B R n g on f' :=
  ⟨h.row, h.ge, fun i hi ho => ⟨(h.maps i hi ho).1, (h.maps i hi ho).2.1, (h.maps i hi ho).2.2.congr (he i hi ho)⟩, h.one⟩
/-- while place j is struck: the first x are done -/
def delF (pl : Nat → Nat) (l : List GEdge) (em : Nat → Bool) (j x y v : Nat) : Nat := if y < x then waitF pl l (emit em j) y v else waitF pl l em y v
theorem WRow.off {w : World} {B R n : Nat} {g : Nat → Nat} {em : Nat → Bool} {f : Nat → Nat → Nat} (h : WRow w B R n g (fun i => !em i) f) (j : Nat) : WRow (w.setCell ⟨R, j, none⟩ (.map none)) B R n g (fun i => !emit em j i) f := by
  have hn : ∀ i, (!emit em j i) = true → (!em i) = true := fun i hi => by
    unfold emit at hi
    simp only [Bool.not_or, Bool.and_eq_true] at hi
    exact hi.1
  refine ⟨?_, h.ge, fun i hi ho => ⟨(h.maps i hi (hn i ho)).1, (h.maps i hi (hn i ho)).2.1, (h.maps i hi (hn i ho)).2.2.same (World.heap_setCells_other' (h.maps i hi (hn i ho)).2.1)⟩, fun i k hi hk ho hok hg => h.one i k hi hk (hn i ho) (hn k hok) hg⟩
  rw [set_cell8 h.row, rowV_set]
  refine congrArg some (congrArg (fun x => Obj.cells x 56 (0, 0)) (rowV_congr fun x _ => ?_))
  unfold emit
  by_cases hx : x = j
  · subst hx; simp
  · simp [hx]
theorem WRow.out {w w' : World} {B R n : Nat} {g : Nat → Nat} {on : Nat → Bool} {f : Nat → Nat → Nat} {T : List Nat} (h : WRow w B R n g on f) (ho : Out T w w') (hR : R ∉ T) (hg : ∀ i, i < n → on i = true → g i ∉ T) : WRow w' B R n g on f :=
  ⟨(ho.block R (Array.getElem?_eq_some_iff.1 h.row).1 hR).trans h.row, h.ge, fun i hi hi2 => ⟨(h.maps i hi hi2).1, (h.maps i hi hi2).2.1, (h.maps i hi hi2).2.2.same (ho.block _ (h.maps i hi hi2).2.2.lt (hg i hi hi2))⟩, h.one⟩

set_option maxRecDepth 100000 in
set_option maxHeartbeats 16000000 in
theorem comps_any (N : Nat) (hN : N ≤ 32) (A : Option Addr) (m c : Nat) (l : List GEdge) (w : World) (h : SliceIs Enc.edge w w.heap.size A m c l) (hm : m ≤ 10000) (hr : rightG (N : Int) l = true) :
    Calls Try.prog 9 #[graphV (N : Int) A m c] w (CoPost N l w) := by
  have hw := right_in hr
  have hb0 : Below w.heap.size w (w.alloc (.cells #[.int .i64 (N : Int), .slice A m c] 24)) := belowA (Below.refl _ _) _
  have hg0 : (w.alloc (.cells #[.int .i64 (N : Int), .slice A m c] 24)).heap[w.heap.size]? = some (.cells #[.int .i64 (N : Int), .slice A m c] 24 (0, 0)) := heapNew rfl
  have hR := right_any (N : Int) A m c l _ (h.mono hb0.size hb0.block)
  rw [hr] at hR
  have HR := Lib.hid hR
  have HP1 := Lib.hid (fun (W : World) (hW : Below w.heap.size w W) => parts_any N hN A m c l W (h.mono hW.size hW.block) hm)
  have HB0 := Lib.hid hb0
  have HG0 := Lib.hid hg0
  have HS := Lib.hid h
  have HW := Lib.hid hw
  have hmb := h.bound
  obtain ⟨P, HP⟩ : ∃ P : Ending → World → Prop, Hid (P = CoPost N l w) := ⟨_, rfl⟩
  rw [← HP.out]
  have HRr := Lib.hid hr
  clear h hw hb0 hR hr
  go_enter Try.func9, Try.ntmps9
  have c0 : (w.alloc (.cells #[.int .i64 (N : Int), .slice A m c] 24)).cell? ⟨w.heap.size, 0, none⟩ = some (.int .i64 (N : Int)) := (cell_of_row _ _ 0 _ _ _ hg0).trans rfl
  have c1 : (w.alloc (.cells #[.int .i64 (N : Int), .slice A m c] 24)).cell? ⟨w.heap.size, 1, none⟩ = some (.slice A m c) := (cell_of_row _ _ 1 _ _ _ hg0).trans rfl
  clear hg0
  go_wp2_with fail
  go_step3
  go_wp2_with fail
  refine HR.out.mono ?_
  rintro e w1 ⟨rfl, hb1⟩
  have HB1 : Hid (Below w.heap.size w w1) := HB0.out.trans (hb1.mono HB0.out.size)
  have HG1 : Hid (w1.heap[w.heap.size]? = some (.cells #[.int .i64 (N : Int), .slice A m c] 24 (0, 0))) := (hb1.block _ (by simp)).trans HG0.out
  have d0 : w1.cell? ⟨w.heap.size, 0, none⟩ = some (.int .i64 (N : Int)) := below_cell hb1 c0
  have d1 : w1.cell? ⟨w.heap.size, 1, none⟩ = some (.slice A m c) := below_cell hb1 c1
  clear hb1 c0 c1 HB0 HG0 HR
  go_wp2_with fail
  refine (HP1.out w1 HB1.out).mono ?_
  rintro e w2 ⟨Ap, cp, outs, σ, S, rfl, hrow, hS, hpo, k1, k2, k3, k4, hb2⟩
  have HB2 : Hid (Below w.heap.size w w2) := HB1.out.trans (hb2.mono HB1.out.size)
  have HG2 : Hid (w2.heap[w.heap.size]? = some (.cells #[.int .i64 (N : Int), .slice A m c] 24 (0, 0))) := (hb2.block _ (Array.getElem?_eq_some_iff.1 HG1.out).1).trans HG1.out
  have hk : outs.length ≤ N := parts_most hpo k1 k2 k3 k4
  have HSo := Lib.hid (sortParts_any w2 w1.heap.size S Ap outs.length cp outs hrow hS (by omega) (parts_ne hpo k1) (parts_dis hpo k1))
  have hAp : Hid (∀ b ∈ blkOf Ap, w1.heap.size ≤ b) := fun b hb => (hrow.blk hb).1
  have HL : Hid (∀ L : List (List Nat), L.Perm outs → L.Pairwise (fun p q => p.headD 0 < q.headD 0) → L = classes N (togN N (hasN l))) := fun L h1 h2 => parts_sorted HRr.out hpo k1 k2 k3 k4 h1 h2
  have hz1 := HB1.out.size
  have hgl := (Array.getElem?_eq_some_iff.1 HG1.out).1
  have hzb := hb2.size
  clear hrow hS hpo k1 k2 k3 k4 hb2 d0 d1 HP1
  go_wp2_with fail
  refine HSo.out.mono ?_
  rintro e w3 ⟨rfl, L, hperm, hsort, hrow, hout⟩
  obtain ⟨rfl⟩ : L = classes N (togN N (hasN l)) := HL.out L hperm hsort
  have HB3 : Hid (Below w.heap.size w w3) := HB2.out.trans (hout.below (fun b hb => by have := hAp.out b hb; omega) HB2.out.size)
  have HG3 : Hid (w3.heap[w.heap.size]? = some (.cells #[.int .i64 (N : Int), .slice A m c] 24 (0, 0))) := (hout.block _ (by omega) (fun hh => by have := hAp.out _ hh; omega)).trans HG2.out
  have hsl := (hrow.slice (T := []) (by simp [reachN]; omega) (fun b _ hh => by cases hh) (fun b hh _ => by cases hh)).is
  have HQ := Lib.hid (eqv_of HW.out)
  have HE2 := Lib.hid (eN_in HW.out)
  have HPl := Lib.hid (place_classes HQ.out)
  have hlk := hsl.1
  have hcin : ∀ p ∈ classes N (togN N (hasN l)), ∀ x ∈ p, x < N := fun p hp => classes_in hp
  obtain ⟨tg, Htg⟩ : ∃ tg, Hid (tg = togN N (hasN l)) := ⟨_, rfl⟩
  unfold CoPost at HP
  rw [← Htg.out] at hsl HQ HPl hlk hcin HP
  obtain ⟨pl, Hpl⟩ : ∃ pl, Hid (pl = ofG 0 (classes N tg) (fun _ => 0)) := ⟨_, rfl⟩
  rw [← Hpl.out] at HPl
  obtain ⟨k, Hk⟩ : ∃ k, Hid (outs.length = k) := ⟨_, rfl⟩
  rw [Hk.out] at hsl hlk hk
  have Hlk := Lib.hid hlk
  have hk1000 : k ≤ 1000 := by omega
  have HSl := Lib.hid hsl
  have HOf := Lib.hid (fun (W : World) (hW : Below w3.heap.size w3 W) => of_any Ap k cp (classes N tg) N (by omega) W (hsl.mono hW.size hW.block) hcin)
  unfold OfPost at HOf
  rw [← Hpl.out] at HOf
  have hplk : ∀ v, v < N → pl v < k := fun v hv => by
    obtain ⟨c', h1, -⟩ := HPl.out v hv
    rw [← Hlk.out]
    exact (List.getElem?_eq_some_iff.1 h1).1
  have HWt := Lib.hid (fun (W : World) (pb : Nat) (hW : Below w3.heap.size w3 W) (hp : W.heap[pb]? = some (.cells (rowF pl N) 3 (0, 0))) => waits_any N A m c l Ap k cp pb N pl W ((HS.out.below (HB3.out.trans (hW.mono HB3.out.size))).mono (by have h1 := HB3.out.size; have h2 := hW.size; omega) (fun _ _ => rfl)) HW.out hm hk1000 hp hplk)
  have Hkp : Hid (∀ W, Below w3.heap.size w3 W → W.cell? ⟨w.heap.size, 0, none⟩ = some (.int .i64 (N : Int)) ∧ W.cell? ⟨w.heap.size, 1, none⟩ = some (.slice A m c)) := fun W hW => by
    have hr := (hW.block _ (Array.getElem?_eq_some_iff.1 HG3.out).1).trans HG3.out
    exact ⟨(cell_of_row _ _ 0 _ _ _ hr).trans rfl, (cell_of_row _ _ 1 _ _ _ hr).trans rfl⟩
  clear hperm hsort hrow hout hsl hlk hcin hplk HSo hAp HL hzb
  rw [Hk.out]
  go_wp2_with fail
  have hq0 := Below.refl w3.heap.size w3
  go_region_held3 (fun W => W.cell? ⟨w.heap.size, 0, none⟩ = some (.int .i64 (N : Int)) ∧ W.cell? ⟨w.heap.size, 1, none⟩ = some (.slice A m c))
    (first
      | (refine Hkp.out _ ?_; (repeat (first | with_reducible exact Below.refl _ _ | with_reducible assumption | with_reducible refine Below.drew ?_)); done)
      | go_keep)
    ((first
      | (go_at_call 30
         refine (HOf.out _ ((Below.refl _ _).drew)).mono ?_
         rintro e4 w4 ⟨rfl, hpr, hb4⟩
         have hq4 : Below w3.heap.size w3 w4 := ((Below.refl w3.heap.size w3).drew).trans hb4
         clear hb4)
      | (go_at_call 29
         refine (HWt.out _ _ hq4 hpr).mono ?_
         rintro e5 w5 ⟨R, g, rfl, hW5, hb5⟩
         have hq5 : Below w3.heap.size w3 w5 := hq4.trans (hb5.mono hq4.size))))
  have HB4 : Hid (Below w.heap.size w w4) := HB3.out.trans (hq4.mono HB3.out.size)
  have HB45 : Hid (Below w4.heap.size w4 w5) := hb5
  have HS4 : Hid (SliceIs (Enc.slice Enc.nat) w4 w3.heap.size Ap k cp (classes N tg)) := HSl.out.below hq4
  have hz34 := hq4.size
  have hz45 := hb5.size
  have hR5 := (Array.getElem?_eq_some_iff.1 hW5.row).1
  have hR4 := hW5.ge
  have HW5 : Hid (WRow w5 w4.heap.size R k g (fun i => !(fun _ => false) i) (waitF pl l (fun _ => false))) := by
    refine WRow.congr (on := fun _ => true) ?_ (fun i _ => rfl)
    exact hW5
  have hgW : Hid (∀ i, i < k → w4.heap.size ≤ g i ∧ g i ≠ R ∧ g i < w5.heap.size) := fun i hi => ⟨(hW5.maps i hi rfl).1, (hW5.maps i hi rfl).2.1, (hW5.maps i hi rfl).2.2.lt⟩
  have HgI : Hid (∀ i j, i < k → j < k → g i = g j → i = j) := fun i j hi hj h => hW5.one i j hi hj rfl rfl h
  have hkN : (classes N tg).length = k := Hlk.out
  clear hpr hq4 hq5 hb5 hW5 hq0 HWt HOf Hkp HG3
  go_wp2_with fail
  try go_step3
  try go_wp2_with fail
  go_loopw [5, 6, 7, 9] (fun s _ _ _ wr => ∃ (q : Nat) (Ao : Option Addr) (co : Nat) (outs : List (List Nat)) (em : Nat → Bool) (f : Nat), s = .slice Ao q co ∧ q ≤ k ∧ Hid (RowOf (Enc.slice Enc.nat) wr w5.heap.size 29 (R :: ((List.range k).map g ++ blkOf Ao)) Ao q co outs) ∧ Hid (WRow wr w4.heap.size R k g (fun i => !em i) (waitF pl l em)) ∧
      Hid (compsF N (eN l) tg N (fun _ => false) = outs ++ compsF N (eN l) tg f (fun v => em (pl v))) ∧ left N tg (fun v => em (pl v)) ≤ f ∧ Hid (((List.range k).filter em).length = q) ∧ Hid (Below w4.heap.size w4 wr) ∧ w5.heap.size ≤ wr.heap.size) (fun s _ _ _ _ => k + 1 - sliceLen (some s))
  case atStart =>
    exact ⟨0, none, 0, [], fun _ => false, N, rfl, by omega, RowOf.nil _, HW5, rfl, left_most _ _ _, (show ((List.range k).filter (fun _ => false)).length = 0 by simp), HB45, Nat.le_refl _⟩
  case round =>
    obtain ⟨q, Ao, co, outs, em, f, rfl, hqk, HRo, HWr, HF, hlf, Hem, HB, hz5⟩ := hrel
    have hAoW : Hid (∀ b ∈ blkOf Ao, w5.heap.size ≤ b ∧ b < wr.heap.size) := fun b hb => ⟨(HRo.out.blk hb).1, (HRo.out.blk hb).2.1⟩
    have HEnd : Hid ((∀ j, j < k → ¬ (em j = false ∧ ∀ v, waitF pl l em j v = 0)) → P (.returned (.slice Ao q co)) wr) := fun hno => by
      rw [HP.out]
      have h1 := (HRo.out.slice (T := []) (by simp [reachN]; omega) (fun b _ hh => by cases hh) (fun b hh _ => by cases hh)).is
      have h2 := comps_end (f := f) HQ.out HPl.out HE2.out em (fun j hj => hno j (by omega))
      refine ⟨Ao, q, co, rfl, ?_, HB4.out.trans (HB.out.mono HB4.out.size)⟩
      rw [HF.out, h2, List.append_nil]
      exact h1
    by_cases hlt : q < k
    · have i1 : (q : Int) < (k : Int) := by omega
      go_wp2_with fail
      obtain ⟨W0, hW0⟩ : ∃ X, X = wr := ⟨_, rfl⟩
      subst hW0
      go_loopw [5, 6, 7, 9, 31] (fun s _ _ _ i wr => ∃ j : Nat, j ≤ k ∧ i = .int .i64 (j : Int) ∧ s = .slice Ao q co ∧ wr = W0 ∧ Hid (∀ x, x < j → ¬ (em x = false ∧ ∀ v, waitF pl l em x v = 0))) (fun _ _ _ _ i _ => k - (intOf i).toNat)
      case atStart => exact ⟨0, by omega, rfl, rfl, rfl, fun x hx => by omega⟩
      case round =>
        obtain ⟨j, hj, rfl, rfl, rfl, Hno⟩ := hrel
        have j0 : (0 : Int) ≤ (j : Int) := by omega
        by_cases hlj : j < k
        · have j1 : (j : Int) < (k : Int) := by omega
          have c0 : wr.cell? ⟨R, j, none⟩ = some (if (!em j) = true then .map (some (g j)) else .map none) := by
            rw [cell_of_row _ _ _ _ _ _ HWr.out.row, rowV_get hlj]
          cases hem : em j with
          | true =>
            rw [hem] at c0
            simp only [Bool.not_true, Bool.false_eq_true, if_false] at c0
            have Hno2 : Hid (∀ x, x < j + 1 → ¬ (em x = false ∧ ∀ v, waitF pl l em x v = 0)) := fun x hx => by
              rcases Nat.lt_or_ge x j with hh | hh
              · exact Hno.out x hh
              · obtain rfl : x = j := by omega
                exact fun h => by rw [hem] at h; exact absurd h.1 (by simp)
            have hq := eql_map_nil wr
            clear hem Hno
            go_wp2_with fail
            go_roundw
            case rel => exact ⟨j + 1, by omega, by go_num, rfl, trivial, Hno2⟩
            case measure => simp [intOf]; omega
          | false =>
            rw [hem] at c0
            simp only [Bool.not_false, if_true] at c0
            obtain ⟨n, hlen, hn0⟩ := (HWr.out.maps j hlj (by simp [hem])).2.2.len under_map
            have Hn0 := Lib.hid hn0
            have Hemj := Lib.hid hem
            have hq := eql_map_some (g j) wr
            clear hem hn0
            by_cases hnz : n = 0
            · subst hnz
              have i2 : ¬ (0 : Int) < ((0 : Nat) : Int) := by omega
              have hready : em j = false ∧ ∀ v, waitF pl l em j v = 0 := ⟨Hemj.out, Hn0.out.1 rfl⟩
              obtain ⟨bl, ol, part, A', n', c', hA, hbl, hx, x0, hpt⟩ := (HS4.out.below (HB.out.mono hz34)).slice_at hlj
              obtain ⟨f', hf', hlf', hcf⟩ := comps_step HQ.out HPl.out HE2.out em hx.out hready Hno.out hlf
              have HF2 : Hid (compsF N (eN l) tg N (fun _ => false) = (outs ++ [part]) ++ compsF N (eN l) tg f' (fun v => emit em j (pl v))) := by
                show _ = _
                rw [HF.out, hcf, List.append_assoc]; rfl
              have hlf2 : left N tg (fun v => emit em j (pl v)) ≤ f' := hlf'
              have Hem2 : Hid (((List.range k).filter (emit em j)).length = q + 1) := by
                show _ = _
                rw [emit_len em Hemj.out k hlj, Hem.out]
              have hSge : ∀ b ∈ R :: ((List.range k).map g ++ blkOf Ao), w3.heap.size ≤ b := fun b hb => by
                rcases List.mem_cons.1 hb with hb | hb
                · omega
                · rcases List.mem_append.1 hb with hb | hb
                  · obtain ⟨i, hi, rfl⟩ := List.mem_map.1 hb
                    have := (hgW.out i (List.mem_range.1 hi)).1
                    omega
                  · have := (hAoW.out b hb).1
                    omega
              have hpt2 := hpt.below (B := w3.heap.size) ((Below.refl w3.heap.size wr).alloc (by omega) (.cells #[.slice A' n' c'] 29))
              have hfar : SliceFar Enc.nat (wr.alloc (.cells #[.slice A' n' c'] 29)) (R :: ((List.range k).map g ++ blkOf Ao)) A' n' c' part := SliceFar.old hpt2 (by simp; omega) hSge
              have ha := HRo.out.below (belowA (Below.refl wr.heap.size wr) (.cells #[.slice A' n' c'] 29))
              have hok : (Enc.slice Enc.nat).ok (sans (wr.alloc (.cells #[.slice A' n' c'] 29)) (R :: ((List.range k).map g ++ blkOf Ao))) (wr.alloc (.cells #[.slice A' n' c'] 29)).heap.size [.slice A' n' c'] part := ⟨_, _, _, rfl, hfar⟩
              obtain ⟨A2, c2, w6, u2, r2, o2, q2⟩ := ha.push (P := Try.prog) (t := 27) (ty := 27) Try.underlying27 info_ints rfl rfl (by decide) _ wr.heap.size [.slice A' n' c'] (heapNew rfl) hok (by intro u hu; simp at hu; subst hu; rfl) (by simp [maxLen]; omega) (by omega) (by simp; omega) (fun b hb => List.mem_cons_of_mem _ (List.mem_append_right _ hb))
              have U2 := Lib.hid u2
              have hRA : R ∉ blkOf Ao := fun hh => by have := (hAoW.out R hh).1; omega
              have ho6 : Out (blkOf Ao) wr w6 := (Out.of_below (belowA (Below.refl wr.heap.size wr) (.cells #[.slice A' n' c'] 29)) (blkOf Ao)).trans o2 (fun b hb _ => hb)
              have hW6 := HWr.out.out ho6 hRA (fun i hi _ hh => by have := (hAoW.out _ hh).1; have := (hgW.out i hi).2.2; omega)
              have c6 : w6.cell? ⟨R, j, none⟩ = some (.map (some (g j))) := by
                rw [cell_of_row _ _ _ _ _ _ hW6.row, rowV_get hlj]; simp [Hemj.out]
              have f6 : w6.frozen? ⟨R, j, none⟩ = false := frozen_of_row _ _ _ _ _ hW6.row
              have HW7 := Lib.hid (hW6.off j)
              have hA2 : ∀ b ∈ blkOf A2, w5.heap.size ≤ b := fun b hb => by
                rcases q2 b hb with hh | hh
                · exact (hAoW.out b hh).1
                · simp at hh; omega
              have HRo7 : Hid (RowOf (Enc.slice Enc.nat) (w6.setCell ⟨R, j, none⟩ (.map none)) w5.heap.size 29 (R :: ((List.range k).map g ++ blkOf A2)) A2 (q + 1) c2 (outs ++ [part])) := by
                have h1 := r2 (R :: ((List.range k).map g ++ blkOf A2)) (fun b hb hlt => by
                  rcases List.mem_cons.1 hb with hb | hb
                  · exact List.mem_cons.2 (.inl hb)
                  · rcases List.mem_append.1 hb with hb | hb
                    · exact List.mem_cons_of_mem _ (List.mem_append_left _ hb)
                    · rcases q2 b hb with hh | hh
                      · exact List.mem_cons_of_mem _ (List.mem_append_right _ hh)
                      · omega)
                exact h1.out (set_out w6 R j _) (fun b hb hh => by have := hA2 b hb; simp at hh; omega) (fun b hb _ => by simp at hb; simp [hb]) (fun b hb _ => hb)
              have hw6 := ho6.size
              have HB7 : Hid (Below w4.heap.size w4 (w6.setCell ⟨R, j, none⟩ (.map none))) := (HB.out.trans (ho6.below (fun b hb => by have := (hAoW.out b hb).1; omega) (by omega))).setCell (show w4.heap.size ≤ R from hR4) _
              have HA2 := Lib.hid hA2
              have hz7 : Hid (w5.heap.size ≤ (w6.setCell ⟨R, j, none⟩ (.map none)).heap.size) := by show _ ≤ _; simp; omega
              subst hA
              clear hready hx hpt hpt2 hfar ha hok u2 r2 o2 q2 ho6 hW6 hA2 hSge hf' hlf' hcf Hno Hn0 hRA hw6 hbl
              go_wp2_with (at_builtin; refine wpList_append_run (o := ⟨some 49, _, _, _, _, _⟩) rfl _ _ _ rfl _ _ rfl rfl U2.out ?_)
              generalize w6.setCell ⟨R, j, none⟩ (.map none) = W7 at *
              go_loopw [9, 55] (fun _ i wr => ∃ x : Nat, x ≤ k ∧ i = .int .i64 (x : Int) ∧ Hid (WRow wr w4.heap.size R k g (fun y => !emit em j y) (delF pl l em j x)) ∧ Hid (Out ((List.range k).map g) W7 wr)) (fun _ i _ => k - (intOf i).toNat)
              case atStart => exact ⟨0, by omega, rfl, HW7, Out.refl _ _⟩
              case round =>
                obtain ⟨x, hx, rfl, HWx, HO⟩ := hrel
                have y0 : (0 : Int) ≤ (x : Int) := by omega
                by_cases hlx : x < k
                · have y1 : (x : Int) < (k : Int) := by omega
                  have d0 : wr.cell? ⟨R, x, none⟩ = some (if (!emit em j x) = true then .map (some (g x)) else .map none) := by
                    rw [cell_of_row _ _ _ _ _ _ HWx.out.row, rowV_get hlx]
                  cases hemx : emit em j x with
                  | true =>
                    rw [hemx] at d0
                    simp only [Bool.not_true, Bool.false_eq_true, if_false] at d0
                    have hdn := fun ty => run_delete_nil wr ty (j : Int)
                    have HW8 : Hid (WRow wr w4.heap.size R k g (fun y => !emit em j y) (delF pl l em j (x + 1))) := HWx.out.conv (fun y _ hy v => by
                      have hne : y ≠ x := fun h => by subst h; rw [hemx] at hy; cases hy
                      unfold delF
                      by_cases h2 : y < x
                      · rw [if_pos h2, if_pos (by omega)]
                      · rw [if_neg h2, if_neg (by omega)])
                    clear hemx HWx
                    go_wp2_with fail
                    go_roundw
                    case rel => exact ⟨x + 1, by omega, by go_num, HW8, HO⟩
                    case measure => simp [intOf]; omega
                  | false =>
                    rw [hemx] at d0
                    simp only [Bool.not_false, if_true] at d0
                    obtain ⟨v8, w8, u8, n8, o8, z8⟩ := (HWx.out.maps x hlx (by simp [hemx])).2.2.del under_map under_int 0 j
                    have hdl : ∀ ty, (Builtin.delete_ #[56, 3] ty #[.map (some (g x)), .int .i64 (j : Int)]).run Try.prog wr = .ok v8 w8 := fun ty => u8
                    have HW8 : Hid (WRow w8 w4.heap.size R k g (fun y => !emit em j y) (delF pl l em j (x + 1))) := by
                      refine HWx.out.turn (f' := delF pl l em j (x + 1)) hlx (by simp [hemx]) o8 (n8.congr fun v => ?_) (fun y _ _ hne v => ?_)
                      · have e1 : delF pl l em j x x v = waitF pl l em x v := by unfold delF; rw [if_neg (by omega)]
                        have e2 : delF pl l em j (x + 1) x v = waitF pl l (emit em j) x v := by unfold delF; rw [if_pos (by omega)]
                        show updN (delF pl l em j x x) j 0 v = _
                        unfold updN
                        rw [e1, e2]
                        unfold waitF emit
                        by_cases hv : v = j
                        · rw [if_pos hv, decide_eq_true hv, Bool.or_true, if_pos rfl]
                        · rw [if_neg hv, decide_eq_false hv, Bool.or_false]
                      · unfold delF
                        by_cases h2 : y < x
                        · rw [if_pos h2, if_pos (by omega)]
                        · rw [if_neg h2, if_neg (by omega)]
                    have HO8 : Hid (Out ((List.range k).map g) W7 w8) := HO.out.trans o8 (fun b hb _ => by simp at hb; subst hb; exact List.mem_map.2 ⟨x, List.mem_range.2 hlx, rfl⟩)
                    clear hemx HWx u8 n8 o8 z8 HO
                    go_wp2_with fail
                    go_roundw
                    case rel => exact ⟨x + 1, by omega, by go_num, HW8, HO8⟩
                    case measure => simp [intOf]; omega
                · have y1 : ¬ (x : Int) < (k : Int) := by omega
                  obtain rfl : x = k := by omega
                  have HW9 : Hid (WRow wr w4.heap.size R x g (fun y => !emit em j y) (waitF pl l (emit em j))) := HWx.out.conv (fun y hy _ v => by unfold delF; rw [if_pos hy])
                  have HB9 : Hid (Below w4.heap.size w4 wr) := HB7.out.trans (HO.out.below (fun b hb => by
                    obtain ⟨i, hi, rfl⟩ := List.mem_map.1 hb
                    exact (hgW.out i (List.mem_range.1 hi)).1) (by have := hz7.out; omega))
                  have HR9 : Hid (RowOf (Enc.slice Enc.nat) wr w5.heap.size 29 (R :: ((List.range x).map g ++ blkOf A2)) A2 (q + 1) c2 (outs ++ [part])) := HRo7.out.out HO.out (fun b hb hh => by
                    obtain ⟨i, hi, rfl⟩ := List.mem_map.1 hh
                    have h1 := HA2.out _ hb
                    have h2 := (hgW.out i (List.mem_range.1 hi)).2.2
                    omega) (fun b hb _ => List.mem_cons_of_mem _ (List.mem_append_left _ hb)) (fun b hb _ => hb)
                  have hz9 : w5.heap.size ≤ wr.heap.size := by have := hz7.out; have := HO.out.size; omega
                  clear HWx HO HRo7 HB7 HW7 HA2 hz7
                  go_wp2_with fail
                  go_roundw
                  case rel => exact ⟨q + 1, A2, c2, _, emit em j, f', rfl, by omega, HR9, HW9, HF2, hlf2, Hem2, HB9, hz9⟩
                  case measure => simp [sliceLen]; omega
            · have i2 : (0 : Int) < (n : Int) := by omega
              have Hno2 : Hid (∀ x, x < j + 1 → ¬ (em x = false ∧ ∀ v, waitF pl l em x v = 0)) := fun x hx => by
                rcases Nat.lt_or_ge x j with hh | hh
                · exact Hno.out x hh
                · obtain rfl : x = j := by omega
                  exact fun h => hnz (Hn0.out.2 h.2)
              clear Hno hnz
              go_wp2_with fail
              go_roundw
              case rel => exact ⟨j + 1, by omega, by go_num, rfl, trivial, Hno2⟩
              case measure => simp [intOf]; omega
        · have j1 : ¬ (j : Int) < (k : Int) := by omega
          have HE := Lib.hid (HEnd.out (fun x hx => Hno.out x (by omega)))
          clear Hno
          go_wp2_with fail
          first
            | exact HE.out
            | (rw [Exit.noGoto_normal]; first | exact HE.out | (go_ret; exact HE.out) | (go_end0; exact HE.out))
    · have i1 : ¬ (q : Int) < (k : Int) := by omega
      have HE : Hid (P (.returned (.slice Ao q co)) wr) := HEnd.out (fun j hj => by
        have hall : ∀ x ∈ List.range k, em x = true := by
          have h1 := Hem.out
          have h2 : ((List.range k).filter em).length = (List.range k).length := by rw [h1, List.length_range]; omega
          exact List.filter_eq_self.1 ((List.filter_sublist).eq_of_length h2)
        exact fun h => by rw [hall j (List.mem_range.2 hj)] at h; exact absurd h.1 (by simp))
      go_wp2_with fail
      first
        | exact HE.out
        | (rw [Exit.noGoto_normal]; first | exact HE.out | (go_ret; exact HE.out) | (go_end0; exact HE.out))
end Go.Proofs.Ytdbpbchhkdconaa
