/- The document's table: which nodes belong together. -/
import Derived.Test.YtdbpbchhkdconaaScTg
import Derived.Test.YtdbpbchhkdconaaGen
namespace Go.Proofs.Ytdbpbchhkdconaa
open Go.RowKit

def Enc.bool : Enc Bool where
  sz := 1
  ok _ _ cs b := cs = [.bool b]
  mono _ _ h := h
  len h := by rw [h]; rfl
theorem SliceIs.bool_at {w : World} {B : Nat} {A : Option Addr} {n c : Nat} {l : List Bool} (h : SliceIs Enc.bool w B A n c l) {i : Nat} (hi : i < n) :
    ∃ b o x, A = some ⟨b, o, none⟩ ∧ b < B ∧ Hid (l[i]? = some x) ∧ w.cell? ⟨b, o + i, none⟩ = some (.bool x) := by
  obtain ⟨b, o, x, cs, hA, hb, hx, rfl, hc⟩ := h.at_ hi
  exact ⟨b, o, x, hA, hb, hx, by simpa [Enc.bool] using hc 0 _ rfl⟩
theorem rowB_list (s : Nat → Bool) (n : Nat) : rowB s n = (((List.range n).map s).flatMap (fun b => [Value.bool b])).toArray := by
  unfold rowB rowV
  congr 1
  rw [List.flatMap_map]
  induction List.range n with
  | nil => rfl
  | cons x l ih => rw [List.flatMap_cons, List.map_cons, ih]; rfl
/-- a row of bools, read as a slice -/
theorem rowB_far {w : World} {g N : Nat} {s : Nat → Bool} {S : List Nat} (h : w.heap[g]? = some (.cells (rowB s N) 4 (0, 0))) (hS : g ∉ S) (hN : N ≤ 1000) : SliceFar Enc.bool w S (some ⟨g, 0, none⟩) N N ((List.range N).map s) := by
  have h1 : (sans w S).heap[g]? = some (.cells (((List.range N).map s).flatMap (fun b => [Value.bool b])).toArray 4 (0, 0)) := (sans_out hS).trans (h.trans (by rw [rowB_list]))
  have h2 := SliceIs.of_block (E := Enc.bool) (w := sans w S) (fun b => [Value.bool b]) (fun _ => rfl) h1 rfl (by simp [reachN]; omega) (fun x _ => rfl)
  rw [sans_size, List.length_map, List.length_range] at h2
  exact h2
theorem info_bools : (Try.prog.info? 64).map (fun i => (i.zero, i.size, i.bytes)) = some (some (.slice none 0 0), 1, 24) := by kernel_rfl
def tabL (N : Nat) (l : List GEdge) : List (List Bool) := (List.range N).map (fun a => (List.range N).map (fun b => togN N (hasN l) a b))
def TabPost (N : Nat) (l : List GEdge) (w : World) (e : Ending) (w' : World) : Prop :=
  ∃ A c, e = .returned (.slice A N c) ∧ SliceIs (Enc.slice Enc.bool) w' w'.heap.size A N c (tabL N l) ∧ Below w.heap.size w w'

set_option maxRecDepth 100000 in
set_option maxHeartbeats 8000000 in
theorem table_any (N : Nat) (hN : N ≤ 1000) (A : Option Addr) (m c : Nat) (l : List GEdge) (w : World) (h : SliceIs Enc.edge w w.heap.size A m c l) :
    Calls Try.prog 36 #[.agg #[.int .i64 (N : Int), .slice A m c]] w (TabPost N l w) := by
  have HT := Lib.hid (fun (x y : Nat) (W : World) (hW : Below w.heap.size w W) => refTog_any N hN A m c l (x : Int) (y : Int) W (h.mono hW.size hW.block))
  simp only [togR_nat] at HT
  obtain ⟨P, HP⟩ : ∃ P : Ending → World → Prop, Hid (P = TabPost N l w) := ⟨_, rfl⟩
  rw [← HP.out]
  clear h
  go_enter Try.func36, Try.ntmps36
  go_wp2_with fail
  have hb0 : Below w.heap.size w (w.alloc (.cells #[.int .i64 (N : Int), .slice A m c] 36)) := belowA (Below.refl _ _) _
  have hg0 : (w.alloc (.cells #[.int .i64 (N : Int), .slice A m c] 36)).heap[w.heap.size]? = some (.cells #[.int .i64 (N : Int), .slice A m c] 36 (0, 0)) := heapNew rfl
  generalize w.alloc (.cells #[.int .i64 (N : Int), .slice A m c] 36) = V at hb0 hg0 ⊢
  have HB0 := Lib.hid hb0
  have HG0 := Lib.hid hg0
  have hV1 := (Array.getElem?_eq_some_iff.1 hg0).1
  clear hb0 hg0
  go_loopw [3, 4, 5, 6] (fun s a _ _ wr => ∃ (i : Nat) (A' : Option Addr) (c' : Nat), i ≤ N ∧ a = .int .i64 (i : Int) ∧ s = .slice A' i c' ∧ Hid (RowOf (Enc.slice Enc.bool) wr V.heap.size 64 (blkOf A') A' i c' ((tabL N l).take i)) ∧ Hid (wr.heap[w.heap.size]? = some (.cells #[.int .i64 (N : Int), .slice A m c] 36 (0, 0))) ∧ Hid (Below w.heap.size w wr) ∧ V.heap.size ≤ wr.heap.size) (fun _ a _ _ _ => N - (intOf a).toNat)
  case atStart => exact ⟨0, none, 0, by omega, rfl, rfl, RowOf.nil _, HG0, HB0, Nat.le_refl _⟩
  case round =>
    obtain ⟨i, A', c', hi, rfl, rfl, HR, HG, HB, hsV⟩ := hrel
    have i0 : (0 : Int) ≤ (i : Int) := by omega
    have c0 : wr.cell? ⟨w.heap.size, 0, none⟩ = some (.int .i64 (N : Int)) := (cell_of_row _ _ 0 _ _ _ HG.out).trans rfl
    by_cases hlt : i < N
    · have i1 : (i : Int) < (N : Int) := by omega
      have hmk := run_make_row' (P := Try.prog) 64 4 (.bool false) 1 Try.underlying64 info_bool rfl .i64 .i64 N (by omega) (by omega) wr
      rw [rowB_made] at hmk
      go_wp2_with fail
      have hb1 : Below wr.heap.size wr (wr.alloc (.cells (rowB (fun _ => false) N) 4)) := belowA (Below.refl _ _) _
      have hr1 : (wr.alloc (.cells (rowB (fun _ => false) N) 4)).heap[wr.heap.size]? = some (.cells (rowB (fun v => if v < 0 then togN N (hasN l) i v else false) N) 4 (0, 0)) := heapNew rfl
      generalize wr.alloc (.cells (rowB (fun _ => false) N) 4) = V1 at hb1 hr1 hmk ⊢
      have HB1 := Lib.hid hb1
      have HR1 := Lib.hid hr1
      clear hb1 hr1 hmk c0
      obtain ⟨W0, hW0⟩ : ∃ X, X = wr := ⟨_, rfl⟩
      subst hW0
      go_loopw [6] (fun y wr => ∃ j : Nat, j ≤ N ∧ y = .int .i64 (j : Int) ∧ Hid (wr.heap[W0.heap.size]? = some (.cells (rowB (fun v => if v < j then togN N (hasN l) i v else false) N) 4 (0, 0))) ∧ Hid (Below W0.heap.size W0 wr)) (fun y _ => N - (intOf y).toNat)
      case atStart => exact ⟨0, by omega, rfl, HR1, HB1⟩
      case round =>
        obtain ⟨j, hj, rfl, HRj, HBj⟩ := hrel
        have y0 : (0 : Int) ≤ (j : Int) := by omega
        have hgr := (HBj.out.block w.heap.size (by omega)).trans HG.out
        have c0 : wr.cell? ⟨w.heap.size, 0, none⟩ = some (.int .i64 (N : Int)) := (cell_of_row _ _ 0 _ _ _ hgr).trans rfl
        have c1 : wr.cell? ⟨w.heap.size, 1, none⟩ = some (.slice A m c) := (cell_of_row _ _ 1 _ _ _ hgr).trans rfl
        by_cases hlj : j < N
        · have y1 : (j : Int) < (N : Int) := by omega
          have hlz := (Array.getElem?_eq_some_iff.1 HRj.out).1
          have HC := Lib.hid (HT.out i j wr (HB.out.trans (HBj.out.mono HB.out.size)))
          have HN : Hid (∀ (W : World), Below wr.heap.size wr W →
              (W.setCell ⟨W0.heap.size, j, none⟩ (.bool (togN N (hasN l) i j))).heap[W0.heap.size]? = some (.cells (rowB (fun v => if v < j + 1 then togN N (hasN l) i v else false) N) 4 (0, 0)) ∧ Below W0.heap.size W0 (W.setCell ⟨W0.heap.size, j, none⟩ (.bool (togN N (hasN l) i j)))) := by
            intro W h2
            refine ⟨?_, (HBj.out.trans (h2.mono HBj.out.size)).setCell (Nat.le_refl _) _⟩
            rw [set_cell8 ((h2.block _ hlz).trans HRj.out)]
            exact congrArg some (congrArg (fun x => Obj.cells x 4 (0, 0)) (rowB_step (fun v => togN N (hasN l) i v) (fun _ => false) N j rfl))
          generalize togN N (hasN l) i j = hv at HC HN
          clear hgr
          go_wp2_with fail
          refine HC.out.mono ?_
          rintro e w1 ⟨rfl, hb1⟩
          have hrow1 := (hb1.block W0.heap.size hlz).trans HRj.out
          have d1 : w1.cell? ⟨W0.heap.size, j, none⟩ = some (.bool false) := by
            rw [cell_of_row _ _ _ _ _ _ hrow1, rowB_get hlj, if_neg (by omega)]
          have f1 : w1.frozen? ⟨W0.heap.size, j, none⟩ = false := frozen_of_row _ _ _ _ _ hrow1
          have HE := Lib.hid (HN.out w1 hb1)
          clear hb1 hrow1 HN c0 c1 HRj HBj HC
          go_wp2_with fail
          go_roundw
          case rel => exact ⟨j + 1, by omega, by go_num, HE.out.1, HE.out.2⟩
          case measure => simp [intOf]; omega
        · have y1 : ¬ (j : Int) < (N : Int) := by omega
          have hrow : wr.heap[W0.heap.size]? = some (.cells (rowB (fun v => togN N (hasN l) i v) N) 4 (0, 0)) := by
            rw [HRj.out]
            exact congrArg some (congrArg (fun x => Obj.cells x 4 (0, 0)) (rowB_congr fun v hv => if_pos (by omega)))
          -- the row behind the building
          have ht := HR.out.below HBj.out
          have hA'lt : ∀ b ∈ blkOf A', b < W0.heap.size := fun b hb => (HR.out.blk hb).2.1
          have hsl : SliceFar Enc.bool wr (blkOf A') (some ⟨W0.heap.size, 0, none⟩) N N ((List.range N).map (fun b => togN N (hasN l) i b)) := rowB_far hrow (fun hh => by have := hA'lt _ hh; omega) hN
          have ha := ht.below (belowA (Below.refl wr.heap.size wr) (.cells #[.slice (some ⟨W0.heap.size, 0, none⟩) N N] 64))
          have hok : (Enc.slice Enc.bool).ok (sans (wr.alloc (.cells #[.slice (some ⟨W0.heap.size, 0, none⟩) N N] 64)) (blkOf A')) (wr.alloc (.cells #[.slice (some ⟨W0.heap.size, 0, none⟩) N N] 64)).heap.size [.slice (some ⟨W0.heap.size, 0, none⟩) N N] ((List.range N).map (fun b => togN N (hasN l) i b)) :=
            ⟨_, _, _, rfl, hsl.on (belowA (Below.refl _ _) _)⟩
          obtain ⟨A2, c2, w2, u2, r2, o2, q2⟩ := ha.push (P := Try.prog) (t := 62) (ty := 62) Try.underlying62 info_bools rfl rfl (by decide) _ wr.heap.size [.slice (some ⟨W0.heap.size, 0, none⟩) N N] (heapNew rfl) hok (by intro u hu; simp at hu; subst hu; rfl) (by simp [maxLen]; omega) (by omega) (by have := HBj.out.size; simp; omega) (fun b hb => hb)
          have U2 := Lib.hid u2
          have hwr := HBj.out.size
          have HR9 : Hid (RowOf (Enc.slice Enc.bool) w2 V.heap.size 64 (blkOf A2) A2 (i + 1) c2 ((tabL N l).take (i + 1))) := by
            have h1 := r2 (blkOf A2) (fun b hb hlt => by
              rcases q2 b hb with hh | hh
              · exact hh
              · omega)
            have e : (tabL N l).take (i + 1) = (tabL N l).take i ++ [(List.range N).map (fun b => togN N (hasN l) i b)] := by
              have hx : (tabL N l)[i]? = some ((List.range N).map (fun b => togN N (hasN l) i b)) := by unfold tabL; simp [hlt]
              rw [List.take_add_one, hx]; rfl
            rw [← e] at h1
            exact h1
          have hbA : Below V.heap.size wr w2 := ((Below.refl V.heap.size wr).alloc (by omega) (.cells #[.slice (some ⟨W0.heap.size, 0, none⟩) N N] 64)).trans (o2.below (fun b hb => (HR.out.blk hb).1) (by simp; omega))
          have HB9 : Hid (Below w.heap.size w w2) := (HB.out.trans (HBj.out.mono HB.out.size)).trans (hbA.mono (by omega))
          have HG9 : Hid (w2.heap[w.heap.size]? = some (.cells #[.int .i64 (N : Int), .slice A m c] 36 (0, 0))) := (hbA.block _ (by omega)).trans hgr
          have hs9 : V.heap.size ≤ w2.heap.size := by have := hbA.size; omega
          clear hgr c1 HRj hrow ht hsl ha hok r2 o2 q2 hbA HR HBj u2 hA'lt
          go_wp2_with (at_builtin; refine wpList_append_run (o := ⟨some 32, _, _, _, _, _⟩) rfl _ _ _ rfl _ _ rfl rfl U2.out ?_)
          go_roundw
          case rel => exact ⟨i + 1, A2, c2, by omega, by go_num, rfl, HR9, HG9, HB9, hs9⟩
          case measure => simp [intOf]; omega
    · have i1 : ¬ (i : Int) < (N : Int) := by omega
      obtain rfl : i = N := by omega
      have HE : Hid (P (.returned (.slice A' i c')) wr) := by
        show P _ _
        rw [HP.out]
        have h := HR.out.slice (T := []) (by simp [reachN]; omega) (fun b _ hh => by cases hh) (fun b hh _ => by cases hh)
        rw [List.take_of_length_le (by simp [tabL])] at h
        exact ⟨A', c', rfl, h.is, HB.out⟩
      clear HR HG
      go_wp2_with fail
      first
        | exact HE.out
        | (go_ret; exact HE.out)
end Go.Proofs.Ytdbpbchhkdconaa
