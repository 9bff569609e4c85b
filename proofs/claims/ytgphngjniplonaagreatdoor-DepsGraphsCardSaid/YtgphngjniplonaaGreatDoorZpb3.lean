/- My own texts DgB7, as far as this claim needs them. -/
import Derived.Test.YtgphngjniplonaaGreatDoorZp28
import Derived.Test.YtgphngjniplonaaGreatDoorZpb2
set_option linter.unusedVariables false
set_option linter.unusedSimpArgs false
set_option maxRecDepth 1000000
set_option maxHeartbeats 16000000
namespace Go.Proofs.YtgphngjniplonaaGreatDoor
open Go.RowKit
theorem refRightG_any (n : Int) (A : Option Addr) (m c : Nat) (l : List GEdge) (w : World) (h : SliceIs Enc.edge w w.heap.size A m c l) : Calls Tryz.prog 18 #[.agg #[.int .i64 n, .slice A m c]] w (RetBool (rightG n l) w) := by
  have mixed : Tryz.prog.follows .mixedOrders = true := by kernel_rfl
  have hm := h.bound
  have Hlen := Lib.hid h.1
  obtain ⟨r, Hr⟩ : ∃ r, Hid (rightG n l = r) := ⟨_, rfl⟩
  rw [Hr.out]
  have HF : Hid (∀ k, k < l.length → okE n l k = false → r = false) := fun k hk h => by rw [← Hr.out]; exact rightG_not hk h
  have HS := Lib.hid h
  clear h
  go_enter Tryz.func18, Tryz.ntmps18
  go_wp2_with fail
  have hb0 : Below w.heap.size w (w.alloc (.cells #[.int .i64 n, .slice A m c] 35)) := belowA (Below.refl _ _) _
  have hg0 : (w.alloc (.cells #[.int .i64 n, .slice A m c] 35)).heap[w.heap.size]? = some (.cells #[.int .i64 n, .slice A m c] 35 (0, 0)) := heapNew rfl
  generalize w.alloc (.cells #[.int .i64 n, .slice A m c] 35) = wa at hb0 hg0 ⊢
  have Hb0 := Lib.hid hb0
  have Hg0 := Lib.hid hg0
  clear hb0 hg0
  go_loopw [3] (fun i wr => ∃ k : Nat, k ≤ m ∧ i = .int .i64 k ∧ Hid (∀ j, j < k → okE n l j = true) ∧ Hid (Below w.heap.size w wr) ∧ Hid (wr.heap[w.heap.size]? = some (.cells #[.int .i64 n, .slice A m c] 35 (0, 0)))) (fun i _ => m - (intOf i).toNat)
  case atStart => exact ⟨0, by omega, rfl, (fun j hj => by omega), Hb0, Hg0⟩
  case round =>
    obtain ⟨k, hk, rfl, Hp, Hb, Hg⟩ := hrel
    have i0 : (0 : Int) ≤ (k : Int) := by omega
    have c0 : wr.cell? ⟨w.heap.size, 0, none⟩ = some (.int .i64 n) := (cell_of_row _ _ 0 _ _ _ Hg.out).trans rfl
    have c1 : wr.cell? ⟨w.heap.size, 1, none⟩ = some (.slice A m c) := (cell_of_row _ _ 1 _ _ _ Hg.out).trans rfl
    by_cases hlt : k < m
    · have i1 : (k : Int) < (m : Int) := by omega
      obtain ⟨b, o, x, rfl, hb, hx, x0, x1, x2, -⟩ := (HS.out.mono Hb.out.size Hb.out.block).edge_at hlt
      have HW := Lib.hid (fun W => refWithin_any x n W)
      have gl := (Array.getElem?_eq_some_iff.1 Hg.out).1
      have HK : Hid (∀ V, Below wr.heap.size wr V → V.cell? ⟨w.heap.size, 0, none⟩ = some (.int .i64 n) ∧ V.cell? ⟨w.heap.size, 1, none⟩ = some (.slice (some ⟨b, o, none⟩) m c) ∧
          V.cell? ⟨b, o + k * 3, none⟩ = some (.int .i64 x.a) ∧ V.cell? ⟨b, o + k * 3 + 1, none⟩ = some (.int .i64 x.b) ∧ V.cell? ⟨b, o + k * 3 + 2, none⟩ = some (.bool x.n) ∧ Below w.heap.size w V ∧ V.heap[w.heap.size]? = some (.cells #[.int .i64 n, .slice (some ⟨b, o, none⟩) m c] 35 (0, 0))) := by
        intro V hV
        exact ⟨below_cell hV c0, below_cell hV c1, below_cell hV x0, below_cell hV x1, below_cell hV x2, Hb.out.trans (hV.mono Hb.out.size), (hV.block _ gl).trans Hg.out⟩
      clear x0 x1 x2 c0
      cases hw : withinE x n with
      | false =>
        rw [hw] at HW
        obtain rfl : r = false := HF.out k (by rw [Hlen.out]; exact hlt) (by unfold okE; rw [hx.out]; simp [hw])
        clear hw gl hx
        go_wp2_with fail
        refine drawnS mixed _ (Below wr.heap.size wr) rfl (by kernel_rfl) rfl (Below.drew (Below.refl _ _)) ?_
        have hyu : undef = Value.tuple #[] := rfl
        iterate 7
          apply seqS_op
          · intro W hW
            have k0 := (HK.out W hW).1
            have k1 := (HK.out W hW).2.1
            have k2 := (HK.out W hW).2.2.1
            have k3 := (HK.out W hW).2.2.2.1
            have k4 := (HK.out W hW).2.2.2.2.1
            go_wp2_with fail
            exact ⟨rfl, rfl, fun d hd => by cases hd; simp only [List.getElem?_toArray, List.getElem?_cons_succ, List.getElem?_cons_zero]; rfl, hW⟩
          simp only [Act.put, List.setIfInBounds_toArray, List.set_cons_succ, List.set_cons_zero]
        apply seqS_op
        · intro W hW
          go_wp2_with fail
          refine (HW.out W).mono ?_
          rintro e w1 ⟨rfl, hb1⟩
          go_wp2_with fail
          exact ⟨rfl, rfl, fun d hd => by cases hd; simp only [List.getElem?_toArray, List.getElem?_cons_succ, List.getElem?_cons_zero]; rfl, hW.trans (hb1.mono hW.size)⟩
        simp only [Act.put, List.setIfInBounds_toArray, List.set_cons_succ, List.set_cons_zero]
        iterate 20
          apply seqS_op
          · intro W hW
            go_wp2_with fail
            exact ⟨rfl, rfl, fun d hd => by cases hd; simp only [List.getElem?_toArray, List.getElem?_cons_succ, List.getElem?_cons_zero]; rfl, hW⟩
          simp only [Act.put, List.setIfInBounds_toArray, List.set_cons_succ, List.set_cons_zero]
        clear hyu
        apply seqS_end
        intro W hW
        have HE := Lib.hid (HK.out W hW).2.2.2.2.2.1
        clear hW
        go_wp2_with fail
        go_ret
        exact ⟨rfl, HE.out⟩
      | true =>
        rw [hw] at HW
        have Hok : Hid ((k = 0 ∨ ∃ (j : Nat) (y : GEdge), k = j + 1 ∧ l[j]? = some y ∧ lessE y x = true) → okE n l k = true) := by
          intro hh
          unfold okE; rw [hx.out]
          rcases hh with rfl | ⟨j, y, rfl, hy, hl⟩
          · simp [hw]
          · simp [hw, hy, hl]
        have Hup : Hid (okE n l k = true → ∀ j, j < k + 1 → okE n l j = true) := fun h j hj => by
          rcases Nat.lt_or_ge j k with hh | hh
          · exact Hp.out j hh
          · obtain rfl : j = k := by omega
            exact h
        by_cases hk0 : k = 0
        · have Hp1 := Lib.hid (Hup.out (Hok.out (.inl hk0)))
          have k6 : ¬ ((0 : Int) < (k : Int)) := by omega
          clear hw gl hx Hp hk0 Hok Hup
          go_wp2_with fail
          refine drawnS mixed _ (Below wr.heap.size wr) rfl (by kernel_rfl) rfl (Below.drew (Below.refl _ _)) ?_
          have hyu : undef = Value.tuple #[] := rfl
          iterate 7
            apply seqS_op
            · intro W hW
              have k0 := (HK.out W hW).1
              have k1 := (HK.out W hW).2.1
              have k2 := (HK.out W hW).2.2.1
              have k3 := (HK.out W hW).2.2.2.1
              have k4 := (HK.out W hW).2.2.2.2.1
              go_wp2_with fail
              exact ⟨rfl, rfl, fun d hd => by cases hd; simp only [List.getElem?_toArray, List.getElem?_cons_succ, List.getElem?_cons_zero]; rfl, hW⟩
            simp only [Act.put, List.setIfInBounds_toArray, List.set_cons_succ, List.set_cons_zero]
          apply seqS_op
          · intro W hW
            go_wp2_with fail
            refine (HW.out W).mono ?_
            rintro e w1 ⟨rfl, hb1⟩
            go_wp2_with fail
            exact ⟨rfl, rfl, fun d hd => by cases hd; simp only [List.getElem?_toArray, List.getElem?_cons_succ, List.getElem?_cons_zero]; rfl, hW.trans (hb1.mono hW.size)⟩
          simp only [Act.put, List.setIfInBounds_toArray, List.set_cons_succ, List.set_cons_zero]
          iterate 20
            apply seqS_op
            · intro W hW
              go_wp2_with fail
              exact ⟨rfl, rfl, fun d hd => by cases hd; simp only [List.getElem?_toArray, List.getElem?_cons_succ, List.getElem?_cons_zero]; rfl, hW⟩
            simp only [Act.put, List.setIfInBounds_toArray, List.set_cons_succ, List.set_cons_zero]
          clear hyu
          apply seqS_end
          intro W hW
          have HE := Lib.hid (HK.out W hW).2.2.2.2.2.1
          have HE2 := Lib.hid (HK.out W hW).2.2.2.2.2.2
          clear hW
          go_wp2_with fail
          go_roundw
          case rel => exact ⟨k + 1, by omega, by go_num, Hp1, HE, HE2⟩
          case measure => simp [intOf]; omega
        · have k6 : (0 : Int) < (k : Int) := by omega
          obtain ⟨j, hj⟩ : ∃ j : Nat, (k : Int) - 1 = (j : Int) := ⟨k - 1, by omega⟩
          have j0 : (0 : Int) ≤ (j : Int) := by omega
          have j1 : (j : Int) < (m : Int) := by omega
          obtain ⟨b', o', y, hA, hbw, hy, y0, y1, y2, -⟩ := HS.out.edge_at (i := j) (by omega)
          obtain ⟨rfl, rfl⟩ : b = b' ∧ o = o' := by injection hA with hA; injection hA with h1 h2; exact ⟨h1, h2⟩
          have hkj : k = j + 1 := by omega
          have HO := Lib.hid (fun W => refLess_any y x W)
          have HY : Hid (∀ V, Below wr.heap.size wr V → V.cell? ⟨b, o + j * 3, none⟩ = some (.int .i64 y.a) ∧ V.cell? ⟨b, o + j * 3 + 1, none⟩ = some (.int .i64 y.b) ∧ V.cell? ⟨b, o + j * 3 + 2, none⟩ = some (.bool y.n)) := by
            intro V hV
            have hbV : Below w.heap.size w V := Hb.out.trans (hV.mono Hb.out.size)
            exact ⟨below_cell hbV y0, below_cell hbV y1, below_cell hbV y2⟩
          cases hle : lessE y x with
          | false =>
            rw [hle] at HO
            obtain rfl : r = false := HF.out k (by rw [Hlen.out]; exact hlt) (by
              unfold okE; rw [hx.out, hkj]; simp only [hy.out]; simp [hle])
            clear hw gl hx Hp hk0 Hok Hup hy hA hkj hbw y0 y1 y2 hle
            go_wp2_with fail
            refine drawnS mixed _ (Below wr.heap.size wr) rfl (by kernel_rfl) rfl (Below.drew (Below.refl _ _)) ?_
            have hyu : undef = Value.tuple #[] := rfl
            iterate 7
              apply seqS_op
              · intro W hW
                have k0 := (HK.out W hW).1
                have k1 := (HK.out W hW).2.1
                have k2 := (HK.out W hW).2.2.1
                have k3 := (HK.out W hW).2.2.2.1
                have k4 := (HK.out W hW).2.2.2.2.1
                go_wp2_with fail
                exact ⟨rfl, rfl, fun d hd => by cases hd; simp only [List.getElem?_toArray, List.getElem?_cons_succ, List.getElem?_cons_zero]; rfl, hW⟩
              simp only [Act.put, List.setIfInBounds_toArray, List.set_cons_succ, List.set_cons_zero]
            apply seqS_op
            · intro W hW
              go_wp2_with fail
              refine (HW.out W).mono ?_
              rintro e w1 ⟨rfl, hb1⟩
              go_wp2_with fail
              exact ⟨rfl, rfl, fun d hd => by cases hd; simp only [List.getElem?_toArray, List.getElem?_cons_succ, List.getElem?_cons_zero]; rfl, hW.trans (hb1.mono hW.size)⟩
            simp only [Act.put, List.setIfInBounds_toArray, List.set_cons_succ, List.set_cons_zero]
            iterate 16
              apply seqS_op
              · intro W hW
                have k0 := (HK.out W hW).1
                have k1 := (HK.out W hW).2.1
                have k2 := (HK.out W hW).2.2.1
                have k3 := (HK.out W hW).2.2.2.1
                have k4 := (HK.out W hW).2.2.2.2.1
                have y0 := (HY.out W hW).1
                have y1 := (HY.out W hW).2.1
                have y2 := (HY.out W hW).2.2
                go_wp2_with fail
                exact ⟨rfl, rfl, fun d hd => by cases hd; simp only [List.getElem?_toArray, List.getElem?_cons_succ, List.getElem?_cons_zero]; rfl, hW⟩
              simp only [Act.put, List.setIfInBounds_toArray, List.set_cons_succ, List.set_cons_zero]
            apply seqS_op
            · intro W hW
              go_wp2_with fail
              refine (HO.out W).mono ?_
              rintro e w1 ⟨rfl, hb1⟩
              go_wp2_with fail
              exact ⟨rfl, rfl, fun d hd => by cases hd; simp only [List.getElem?_toArray, List.getElem?_cons_succ, List.getElem?_cons_zero]; rfl, hW.trans (hb1.mono hW.size)⟩
            simp only [Act.put, List.setIfInBounds_toArray, List.set_cons_succ, List.set_cons_zero]
            iterate 3
              apply seqS_op
              · intro W hW
                go_wp2_with fail
                exact ⟨rfl, rfl, fun d hd => by cases hd; simp only [List.getElem?_toArray, List.getElem?_cons_succ, List.getElem?_cons_zero]; rfl, hW⟩
              simp only [Act.put, List.setIfInBounds_toArray, List.set_cons_succ, List.set_cons_zero]
            clear hyu
            apply seqS_end
            intro W hW
            have HE := Lib.hid (HK.out W hW).2.2.2.2.2.1
            clear hW
            go_wp2_with fail
            go_ret
            exact ⟨rfl, HE.out⟩
          | true =>
            rw [hle] at HO
            have Hp1 := Lib.hid (Hup.out (Hok.out (.inr ⟨j, y, hkj, hy.out, hle⟩)))
            clear hw gl hx Hp hk0 Hok Hup hy hA hkj hbw y0 y1 y2 hle
            go_wp2_with fail
            refine drawnS mixed _ (Below wr.heap.size wr) rfl (by kernel_rfl) rfl (Below.drew (Below.refl _ _)) ?_
            have hyu : undef = Value.tuple #[] := rfl
            iterate 7
              apply seqS_op
              · intro W hW
                have k0 := (HK.out W hW).1
                have k1 := (HK.out W hW).2.1
                have k2 := (HK.out W hW).2.2.1
                have k3 := (HK.out W hW).2.2.2.1
                have k4 := (HK.out W hW).2.2.2.2.1
                go_wp2_with fail
                exact ⟨rfl, rfl, fun d hd => by cases hd; simp only [List.getElem?_toArray, List.getElem?_cons_succ, List.getElem?_cons_zero]; rfl, hW⟩
              simp only [Act.put, List.setIfInBounds_toArray, List.set_cons_succ, List.set_cons_zero]
            apply seqS_op
            · intro W hW
              go_wp2_with fail
              refine (HW.out W).mono ?_
              rintro e w1 ⟨rfl, hb1⟩
              go_wp2_with fail
              exact ⟨rfl, rfl, fun d hd => by cases hd; simp only [List.getElem?_toArray, List.getElem?_cons_succ, List.getElem?_cons_zero]; rfl, hW.trans (hb1.mono hW.size)⟩
            simp only [Act.put, List.setIfInBounds_toArray, List.set_cons_succ, List.set_cons_zero]
            iterate 16
              apply seqS_op
              · intro W hW
                have k0 := (HK.out W hW).1
                have k1 := (HK.out W hW).2.1
                have k2 := (HK.out W hW).2.2.1
                have k3 := (HK.out W hW).2.2.2.1
                have k4 := (HK.out W hW).2.2.2.2.1
                have y0 := (HY.out W hW).1
                have y1 := (HY.out W hW).2.1
                have y2 := (HY.out W hW).2.2
                go_wp2_with fail
                exact ⟨rfl, rfl, fun d hd => by cases hd; simp only [List.getElem?_toArray, List.getElem?_cons_succ, List.getElem?_cons_zero]; rfl, hW⟩
              simp only [Act.put, List.setIfInBounds_toArray, List.set_cons_succ, List.set_cons_zero]
            apply seqS_op
            · intro W hW
              go_wp2_with fail
              refine (HO.out W).mono ?_
              rintro e w1 ⟨rfl, hb1⟩
              go_wp2_with fail
              exact ⟨rfl, rfl, fun d hd => by cases hd; simp only [List.getElem?_toArray, List.getElem?_cons_succ, List.getElem?_cons_zero]; rfl, hW.trans (hb1.mono hW.size)⟩
            simp only [Act.put, List.setIfInBounds_toArray, List.set_cons_succ, List.set_cons_zero]
            iterate 3
              apply seqS_op
              · intro W hW
                go_wp2_with fail
                exact ⟨rfl, rfl, fun d hd => by cases hd; simp only [List.getElem?_toArray, List.getElem?_cons_succ, List.getElem?_cons_zero]; rfl, hW⟩
              simp only [Act.put, List.setIfInBounds_toArray, List.set_cons_succ, List.set_cons_zero]
            clear hyu
            apply seqS_end
            intro W hW
            have HE := Lib.hid (HK.out W hW).2.2.2.2.2.1
            have HE2 := Lib.hid (HK.out W hW).2.2.2.2.2.2
            clear hW
            go_wp2_with fail
            go_roundw
            case rel => exact ⟨k + 1, by omega, by go_num, Hp1, HE, HE2⟩
            case measure => simp [intOf]; omega
    · have i1 : ¬ (k : Int) < (m : Int) := by omega
      have hyu : undef = Value.tuple #[] := rfl
      have HAll : Hid (∀ j, j < l.length → okE n l j = true) := fun j hj => Hp.out j (by rw [Hlen.out] at hj; omega)
      by_cases h0 : (0 : Int) ≤ n
      · by_cases h1 : n ≤ 32
        · obtain rfl : r = true := by rw [← Hr.out]; exact rightG_all h0 h1 HAll.out
          clear Hp HAll
          go_wp2_with fail
          go_ret
          exact ⟨rfl, Hb.out⟩
        · obtain rfl : r = false := by rw [← Hr.out]; simp [rightG]; omega
          clear Hp HAll
          go_wp2_with fail
          go_ret
          exact ⟨rfl, Hb.out⟩
      · obtain rfl : r = false := by rw [← Hr.out]; simp [rightG]; omega
        clear Hp HAll
        go_wp2_with fail
        go_ret
        exact ⟨rfl, Hb.out⟩
end Go.Proofs.YtgphngjniplonaaGreatDoor
namespace Go.Proofs.YtgphngjniplonaaGreatDoor
open Go.RowKit
def NewBad (w : World) (e : Ending) (w' : World) : Prop :=
  e = .returned (.tuple #[graphV 0 none 0 0, .iface 57 (.int .i64 1)]) ∧ Below w.heap.size w w'
theorem new_bad (n : Int) (A : Option Addr) (m c : Nat) (l : List GEdge) (w : World) (h : SliceIs Enc.edge w w.heap.size A m c l) (hbad : n < 0 ∨ 32 < n ∨ ∃ x ∈ l, withinE x n = false) :
    Calls Tryz.prog 14 #[.int .i64 n, .slice A m c] w (NewBad w) := by
  have hbb : Below w.heap.size w ((w.alloc (.cells #[.int .i64 n] 3)).alloc (.cells #[.int .i64 0, .slice none 0 0] 31)) := belowA (belowA (Below.refl _ _) _) _
  have hbx : ((w.alloc (.cells #[.int .i64 n] 3)).alloc (.cells #[.int .i64 0, .slice none 0 0] 31)).heap[w.heap.size]? = some (.cells #[.int .i64 n] 3 (0, 0)) := heapOld (heapNew rfl)
  have hby : ((w.alloc (.cells #[.int .i64 n] 3)).alloc (.cells #[.int .i64 0, .slice none 0 0] 31)).heap[w.heap.size + 1]? = some (.cells #[.int .i64 0, .slice none 0 0] 31 (0, 0)) := heapNew (by simp)
  have hzz : ((w.alloc (.cells #[.int .i64 n] 3)).alloc (.cells #[.int .i64 0, .slice none 0 0] 31)).heap.size = w.heap.size + 2 := by simp
  have c0 : ((w.alloc (.cells #[.int .i64 n] 3)).alloc (.cells #[.int .i64 0, .slice none 0 0] 31)).cell? ⟨w.heap.size, 0, none⟩ = some (.int .i64 n) := (cell_of_row _ _ 0 _ _ _ hbx).trans rfl
  have HEnd : Hid (∀ W : World, W.heap[w.heap.size + 1]? = some (.cells #[.int .i64 0, .slice none 0 0] 31 (0, 0)) → Below w.heap.size w W →
      W.cell? ⟨w.heap.size + 1, 0, none⟩ = some (.int .i64 0) ∧ W.cell? ⟨w.heap.size + 1, 1, none⟩ = some (.slice none 0 0) ∧ W.frozen? ⟨w.heap.size + 1, 0, none⟩ = false ∧ W.frozen? ⟨w.heap.size + 1, 1, none⟩ = false ∧
      ((W.setCell ⟨w.heap.size + 1, 0, none⟩ (.int .i64 0)).setCell ⟨w.heap.size + 1, 1, none⟩ (.slice none 0 0)).cell? ⟨w.heap.size + 1, 0, none⟩ = some (.int .i64 0) ∧
      ((W.setCell ⟨w.heap.size + 1, 0, none⟩ (.int .i64 0)).setCell ⟨w.heap.size + 1, 1, none⟩ (.slice none 0 0)).cell? ⟨w.heap.size + 1, 1, none⟩ = some (.slice none 0 0) ∧
      Hid (NewBad w (.returned (.tuple #[graphV 0 none 0 0, .iface 57 (.int .i64 1)])) ((W.setCell ⟨w.heap.size + 1, 0, none⟩ (.int .i64 0)).setCell ⟨w.heap.size + 1, 1, none⟩ (.slice none 0 0)))) := fun W hW hb => by
    have f0 : W.cell? ⟨w.heap.size + 1, 0, none⟩ = some (.int .i64 0) := (cell_of_row _ _ 0 _ _ _ hW).trans rfl
    have f1 : W.cell? ⟨w.heap.size + 1, 1, none⟩ = some (.slice none 0 0) := (cell_of_row _ _ 1 _ _ _ hW).trans rfl
    refine ⟨f0, f1, frozen_of_row _ _ _ _ _ hW, frozen_of_row _ _ _ _ _ hW, ?_, World.cell?_setCell_same _ _ _ ((World.cell?_setCell_other _ _ _ _ (by simp)).trans f1), rfl, ?_⟩
    · rw [World.cell?_setCell_other _ _ _ _ (by simp)]; exact World.cell?_setCell_same _ _ _ f0
    · exact (hb.setCell (show w.heap.size ≤ w.heap.size + 1 by omega) _).setCell (show w.heap.size ≤ w.heap.size + 1 by omega) _
  by_cases h0 : n < 0
  · obtain ⟨f0, f1, z0, z1, -, -, -⟩ := HEnd.out _ hby hbb
    have HE : Hid (NewBad w (.returned (.tuple #[graphV 0 none 0 0, .iface 57 (.int .i64 1)])) ((w.alloc (.cells #[.int .i64 n] 3)).alloc (.cells #[.int .i64 0, .slice none 0 0] 31))) := ⟨rfl, hbb⟩
    clear h hbx hby hzz hbad hbb HEnd
    go_enter Tryz.func14, Tryz.ntmps14
    go_wp2_with fail
    refine bodyPost_ret (v := .tuple #[graphV 0 none 0 0, .iface 57 (.int .i64 1)]) ?_ rfl HE.out
    rw [results_cell_tmp rfl]
    go_simp
  by_cases h1 : 32 < n
  · obtain ⟨f0, f1, z0, z1, -, -, -⟩ := HEnd.out _ hby hbb
    have HE : Hid (NewBad w (.returned (.tuple #[graphV 0 none 0 0, .iface 57 (.int .i64 1)])) ((w.alloc (.cells #[.int .i64 n] 3)).alloc (.cells #[.int .i64 0, .slice none 0 0] 31))) := ⟨rfl, hbb⟩
    clear h hbx hby hzz hbad hbb HEnd
    go_enter Tryz.func14, Tryz.ntmps14
    go_wp2_with fail
    refine bodyPost_ret (v := .tuple #[graphV 0 none 0 0, .iface 57 (.int .i64 1)]) ?_ rfl HE.out
    rw [results_cell_tmp rfl]
    go_simp
  have hex : ∃ x ∈ l, withinE x n = false := by
    rcases hbad with h2 | h2 | h2
    · exact absurd h2 h0
    · exact absurd h2 h1
    · exact h2
  have HC := Lib.hid (containsE3_any w.heap.size (fun x => !withinE x n) true A m c l ((w.alloc (.cells #[.int .i64 n] 3)).alloc (.cells #[.int .i64 0, .slice none 0 0] 31)) (h.mono hbb.size hbb.block)
    (by obtain ⟨x, hx, h2⟩ := hex; rw [List.any_eq_true]; exact ⟨x, hx, by simp [h2]⟩)
    (fun x hx W2 hW2 => new1_any x n w.heap.size W2 ((cell_of_row _ _ 0 _ _ _ ((hW2.block _ (by rw [hzz]; omega)).trans hbx)).trans rfl)))
  have HB0 := Lib.hid hbb
  have HY := Lib.hid hby
  have HZ := Lib.hid hzz
  clear h hbx hby hzz hbad hbb hex
  go_enter Tryz.func14, Tryz.ntmps14
  go_wp2_with fail
  refine HC.out.mono ?_
  rintro e w2 ⟨rfl, hb2⟩
  obtain ⟨f0, f1, z0, z1, g0, g1, HE⟩ := HEnd.out w2 ((hb2.block _ (by rw [HZ.out]; omega)).trans HY.out) (HB0.out.trans (hb2.mono HB0.out.size))
  clear hb2 HEnd HC HB0 HY HZ c0
  go_wp2_with fail
  refine bodyPost_ret (v := .tuple #[graphV 0 none 0 0, .iface 57 (.int .i64 1)]) ?_ rfl HE.out
  rw [results_cell_tmp rfl]
  go_simp
def TurnBad (w : World) (e : Ending) (w' : World) : Prop := e = .returned (graphV 0 none 0 0) ∧ Below w.heap.size w w'
theorem turned_bad (n : Int) (A : Option Addr) (m c : Nat) (l : List GEdge) (w : World) (h : SliceIs Enc.edge w w.heap.size A m c l) (hr : rightG n l = false) :
    Calls Tryz.prog 17 #[graphV n A m c] w (TurnBad w) := by
  have hb0 : Below w.heap.size w ((w.alloc (.cells #[.int .i64 n, .slice A m c] 31)).alloc (.cells #[.int .i64 0, .slice none 0 0] 31)) := belowA (belowA (Below.refl _ _) _) _
  have hg0 : ((w.alloc (.cells #[.int .i64 n, .slice A m c] 31)).alloc (.cells #[.int .i64 0, .slice none 0 0] 31)).heap[w.heap.size]? = some (.cells #[.int .i64 n, .slice A m c] 31 (0, 0)) := heapOld (heapNew rfl)
  have hg1 : ((w.alloc (.cells #[.int .i64 n, .slice A m c] 31)).alloc (.cells #[.int .i64 0, .slice none 0 0] 31)).heap[w.heap.size + 1]? = some (.cells #[.int .i64 0, .slice none 0 0] 31 (0, 0)) := heapNew (by simp)
  have c0 : ((w.alloc (.cells #[.int .i64 n, .slice A m c] 31)).alloc (.cells #[.int .i64 0, .slice none 0 0] 31)).cell? ⟨w.heap.size, 0, none⟩ = some (.int .i64 n) := (cell_of_row _ _ 0 _ _ _ hg0).trans rfl
  have c1 : ((w.alloc (.cells #[.int .i64 n, .slice A m c] 31)).alloc (.cells #[.int .i64 0, .slice none 0 0] 31)).cell? ⟨w.heap.size, 1, none⟩ = some (.slice A m c) := (cell_of_row _ _ 1 _ _ _ hg0).trans rfl
  have hR := rightG_any n A m c l _ (h.mono hb0.size hb0.block)
  rw [hr] at hR
  have HR := Lib.hid hR
  have HB0 := Lib.hid hb0
  have HG1 := Lib.hid hg1
  have HZ : Hid (((w.alloc (.cells #[.int .i64 n, .slice A m c] 31)).alloc (.cells #[.int .i64 0, .slice none 0 0] 31)).heap.size = w.heap.size + 2) := by show _ = _; simp
  clear h hb0 hg0 hg1 hR hr
  go_enter Tryz.func17, Tryz.ntmps17
  go_wp2_with fail
  refine HR.out.mono ?_
  rintro e V ⟨rfl, hbV⟩
  have HBV : Below w.heap.size w V := HB0.out.trans (hbV.mono HB0.out.size)
  have hW : V.heap[w.heap.size + 1]? = some (.cells #[.int .i64 0, .slice none 0 0] 31 (0, 0)) := (hbV.block _ (by rw [HZ.out]; omega)).trans HG1.out
  have f0 : V.cell? ⟨w.heap.size + 1, 0, none⟩ = some (.int .i64 0) := (cell_of_row _ _ 0 _ _ _ hW).trans rfl
  have f1 : V.cell? ⟨w.heap.size + 1, 1, none⟩ = some (.slice none 0 0) := (cell_of_row _ _ 1 _ _ _ hW).trans rfl
  have z0 : V.frozen? ⟨w.heap.size + 1, 0, none⟩ = false := frozen_of_row _ _ _ _ _ hW
  have z1 : V.frozen? ⟨w.heap.size + 1, 1, none⟩ = false := frozen_of_row _ _ _ _ _ hW
  have g0 : ((V.setCell ⟨w.heap.size + 1, 0, none⟩ (.int .i64 0)).setCell ⟨w.heap.size + 1, 1, none⟩ (.slice none 0 0)).cell? ⟨w.heap.size + 1, 0, none⟩ = some (.int .i64 0) := by
    rw [World.cell?_setCell_other _ _ _ _ (by simp)]; exact World.cell?_setCell_same _ _ _ f0
  have g1 : ((V.setCell ⟨w.heap.size + 1, 0, none⟩ (.int .i64 0)).setCell ⟨w.heap.size + 1, 1, none⟩ (.slice none 0 0)).cell? ⟨w.heap.size + 1, 1, none⟩ = some (.slice none 0 0) :=
    World.cell?_setCell_same _ _ _ ((World.cell?_setCell_other _ _ _ _ (by simp)).trans f1)
  have HE : Hid (TurnBad w (.returned (graphV 0 none 0 0)) ((V.setCell ⟨w.heap.size + 1, 0, none⟩ (.int .i64 0)).setCell ⟨w.heap.size + 1, 1, none⟩ (.slice none 0 0))) :=
    ⟨rfl, (HBV.setCell (show w.heap.size ≤ w.heap.size + 1 by omega) _).setCell (show w.heap.size ≤ w.heap.size + 1 by omega) _⟩
  clear hbV HBV hW HR HB0 HG1 HZ c0 c1
  go_wp2_with fail
  refine bodyPost_ret (v := .agg #[.int .i64 0, .slice none 0 0]) ?_ rfl HE.out
  simp [results, Tryz.results17, go_sem, g0, g1]
end Go.Proofs.YtgphngjniplonaaGreatDoor
namespace Go.Proofs.YtgphngjniplonaaGreatDoor
end Go.Proofs.YtgphngjniplonaaGreatDoor
namespace Go.Proofs.YtgphngjniplonaaGreatDoor
section
variable {has : Nat → Nat → Bool} {n : Nat}
end
end Go.Proofs.YtgphngjniplonaaGreatDoor
