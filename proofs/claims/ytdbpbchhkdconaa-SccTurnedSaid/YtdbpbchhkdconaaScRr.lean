/- The document's Right: which graphs are right. -/
import Derived.Test.YtdbpbchhkdconaaScR
namespace Go.Proofs.Ytdbpbchhkdconaa
open Go.RowKit

set_option maxRecDepth 100000 in
set_option maxHeartbeats 8000000 in
theorem refRight_any (n : Int) (A : Option Addr) (m c : Nat) (l : List GEdge) (w : World) (h : SliceIs Enc.edge w w.heap.size A m c l) : Calls Try.prog 14 #[.agg #[.int .i64 n, .slice A m c]] w (RetBool (rightG n l) w) := by
  have mixed : Try.prog.follows .mixedOrders = true := by kernel_rfl
  have hm := h.bound
  have Hlen := Lib.hid h.1
  obtain ⟨r, Hr⟩ : ∃ r, Hid (rightG n l = r) := ⟨_, rfl⟩
  rw [Hr.out]
  have HF : Hid (∀ k, k < l.length → okE n l k = false → r = false) := fun k hk h => by rw [← Hr.out]; exact rightG_not hk h
  have HS := Lib.hid h
  clear h
  go_enter Try.func14, Try.ntmps14
  go_wp2_with fail
  have hb0 : Below w.heap.size w (w.alloc (.cells #[.int .i64 n, .slice A m c] 36)) := belowA (Below.refl _ _) _
  have hg0 : (w.alloc (.cells #[.int .i64 n, .slice A m c] 36)).heap[w.heap.size]? = some (.cells #[.int .i64 n, .slice A m c] 36 (0, 0)) := heapNew rfl
  generalize w.alloc (.cells #[.int .i64 n, .slice A m c] 36) = wa at hb0 hg0 ⊢
  have Hb0 := Lib.hid hb0
  have Hg0 := Lib.hid hg0
  clear hb0 hg0
  go_loopw [3] (fun i wr => ∃ k : Nat, k ≤ m ∧ i = .int .i64 k ∧ Hid (∀ j, j < k → okE n l j = true) ∧ Hid (Below w.heap.size w wr) ∧ Hid (wr.heap[w.heap.size]? = some (.cells #[.int .i64 n, .slice A m c] 36 (0, 0)))) (fun i _ => m - (intOf i).toNat)
  case atStart => exact ⟨0, by omega, rfl, (fun j hj => by omega), Hb0, Hg0⟩
  case round =>
    obtain ⟨k, hk, rfl, Hp, Hb, Hg⟩ := hrel
    have i0 : (0 : Int) ≤ (k : Int) := by omega
    have c0 : wr.cell? ⟨w.heap.size, 0, none⟩ = some (.int .i64 n) := (cell_of_row _ _ 0 _ _ _ Hg.out).trans rfl
    have c1 : wr.cell? ⟨w.heap.size, 1, none⟩ = some (.slice A m c) := (cell_of_row _ _ 1 _ _ _ Hg.out).trans rfl
    by_cases hlt : k < m
    · have i1 : (k : Int) < (m : Int) := by omega
      obtain ⟨b, o, x, rfl, hb, hx, x0, x1, x2, -⟩ := (HS.out.mono Hb.out.size Hb.out.block).edge_at hlt
      have HW := Lib.hid (fun W => refWithin_any x n W)
      have gl := (Array.getElem?_eq_some_iff.1 Hg.out).1
      have HK : Hid (∀ V, Below wr.heap.size wr V → V.cell? ⟨w.heap.size, 0, none⟩ = some (.int .i64 n) ∧ V.cell? ⟨w.heap.size, 1, none⟩ = some (.slice (some ⟨b, o, none⟩) m c) ∧
          V.cell? ⟨b, o + k * 3, none⟩ = some (.int .i64 x.a) ∧ V.cell? ⟨b, o + k * 3 + 1, none⟩ = some (.int .i64 x.b) ∧ V.cell? ⟨b, o + k * 3 + 2, none⟩ = some (.bool x.n) ∧ Below w.heap.size w V ∧ V.heap[w.heap.size]? = some (.cells #[.int .i64 n, .slice (some ⟨b, o, none⟩) m c] 36 (0, 0))) := by
        intro V hV
        exact ⟨below_cell hV c0, below_cell hV c1, below_cell hV x0, below_cell hV x1, below_cell hV x2, Hb.out.trans (hV.mono Hb.out.size), (hV.block _ gl).trans Hg.out⟩
      clear x0 x1 x2 c0
      cases hw : withinE x n with
      | false =>
        rw [hw] at HW
        obtain rfl : r = false := HF.out k (by rw [Hlen.out]; exact hlt) (by unfold okE; rw [hx.out]; simp [hw])
        clear hw gl hx
        go_wp2_with fail
        refine drawnS mixed _ (Below wr.heap.size wr) rfl (by kernel_rfl) rfl (Below.drew (Below.refl _ _)) ?_
        have hyu : undef = Value.tuple #[] := rfl
        iterate 7
          apply seqS_op
          · intro W hW
            have k0 := (HK.out W hW).1
            have k1 := (HK.out W hW).2.1
            have k2 := (HK.out W hW).2.2.1
            have k3 := (HK.out W hW).2.2.2.1
            have k4 := (HK.out W hW).2.2.2.2.1
            go_wp2_with fail
            exact ⟨rfl, rfl, fun d hd => by cases hd; simp only [List.getElem?_toArray, List.getElem?_cons_succ, List.getElem?_cons_zero]; rfl, hW⟩
          simp only [Act.put, List.setIfInBounds_toArray, List.set_cons_succ, List.set_cons_zero]
        apply seqS_op
        · intro W hW
          go_wp2_with fail
          refine (HW.out W).mono ?_
          rintro e w1 ⟨rfl, hb1⟩
          go_wp2_with fail
          exact ⟨rfl, rfl, fun d hd => by cases hd; simp only [List.getElem?_toArray, List.getElem?_cons_succ, List.getElem?_cons_zero]; rfl, hW.trans (hb1.mono hW.size)⟩
        simp only [Act.put, List.setIfInBounds_toArray, List.set_cons_succ, List.set_cons_zero]
        iterate 20
          apply seqS_op
          · intro W hW
            go_wp2_with fail
            exact ⟨rfl, rfl, fun d hd => by cases hd; simp only [List.getElem?_toArray, List.getElem?_cons_succ, List.getElem?_cons_zero]; rfl, hW⟩
          simp only [Act.put, List.setIfInBounds_toArray, List.set_cons_succ, List.set_cons_zero]
        clear hyu
        apply seqS_end
        intro W hW
        have HE := Lib.hid (HK.out W hW).2.2.2.2.2.1
        clear hW
        go_wp2_with fail
        go_ret
        exact ⟨rfl, HE.out⟩
      | true =>
        rw [hw] at HW
        have Hok : Hid ((k = 0 ∨ ∃ (j : Nat) (y : GEdge), k = j + 1 ∧ l[j]? = some y ∧ lessE y x = true) → okE n l k = true) := by
          intro hh
          unfold okE; rw [hx.out]
          rcases hh with rfl | ⟨j, y, rfl, hy, hl⟩
          · simp [hw]
          · simp [hw, hy, hl]
        have Hup : Hid (okE n l k = true → ∀ j, j < k + 1 → okE n l j = true) := fun h j hj => by
          rcases Nat.lt_or_ge j k with hh | hh
          · exact Hp.out j hh
          · obtain rfl : j = k := by omega
            exact h
        by_cases hk0 : k = 0
        · have Hp1 := Lib.hid (Hup.out (Hok.out (.inl hk0)))
          have k6 : ¬ ((0 : Int) < (k : Int)) := by omega
          clear hw gl hx Hp hk0 Hok Hup
          go_wp2_with fail
          refine drawnS mixed _ (Below wr.heap.size wr) rfl (by kernel_rfl) rfl (Below.drew (Below.refl _ _)) ?_
          have hyu : undef = Value.tuple #[] := rfl
          iterate 7
            apply seqS_op
            · intro W hW
              have k0 := (HK.out W hW).1
              have k1 := (HK.out W hW).2.1
              have k2 := (HK.out W hW).2.2.1
              have k3 := (HK.out W hW).2.2.2.1
              have k4 := (HK.out W hW).2.2.2.2.1
              go_wp2_with fail
              exact ⟨rfl, rfl, fun d hd => by cases hd; simp only [List.getElem?_toArray, List.getElem?_cons_succ, List.getElem?_cons_zero]; rfl, hW⟩
            simp only [Act.put, List.setIfInBounds_toArray, List.set_cons_succ, List.set_cons_zero]
          apply seqS_op
          · intro W hW
            go_wp2_with fail
            refine (HW.out W).mono ?_
            rintro e w1 ⟨rfl, hb1⟩
            go_wp2_with fail
            exact ⟨rfl, rfl, fun d hd => by cases hd; simp only [List.getElem?_toArray, List.getElem?_cons_succ, List.getElem?_cons_zero]; rfl, hW.trans (hb1.mono hW.size)⟩
          simp only [Act.put, List.setIfInBounds_toArray, List.set_cons_succ, List.set_cons_zero]
          iterate 20
            apply seqS_op
            · intro W hW
              go_wp2_with fail
              exact ⟨rfl, rfl, fun d hd => by cases hd; simp only [List.getElem?_toArray, List.getElem?_cons_succ, List.getElem?_cons_zero]; rfl, hW⟩
            simp only [Act.put, List.setIfInBounds_toArray, List.set_cons_succ, List.set_cons_zero]
          clear hyu
          apply seqS_end
          intro W hW
          have HE := Lib.hid (HK.out W hW).2.2.2.2.2.1
          have HE2 := Lib.hid (HK.out W hW).2.2.2.2.2.2
          clear hW
          go_wp2_with fail
          go_roundw
          case rel => exact ⟨k + 1, by omega, by go_num, Hp1, HE, HE2⟩
          case measure => simp [intOf]; omega
        · have k6 : (0 : Int) < (k : Int) := by omega
          obtain ⟨j, hj⟩ : ∃ j : Nat, (k : Int) - 1 = (j : Int) := ⟨k - 1, by omega⟩
          have j0 : (0 : Int) ≤ (j : Int) := by omega
          have j1 : (j : Int) < (m : Int) := by omega
          obtain ⟨b', o', y, hA, hbw, hy, y0, y1, y2, -⟩ := HS.out.edge_at (i := j) (by omega)
          obtain ⟨rfl, rfl⟩ : b = b' ∧ o = o' := by injection hA with hA; injection hA with h1 h2; exact ⟨h1, h2⟩
          have hkj : k = j + 1 := by omega
          have HO := Lib.hid (fun W => refLess_any y x W)
          have HY : Hid (∀ V, Below wr.heap.size wr V → V.cell? ⟨b, o + j * 3, none⟩ = some (.int .i64 y.a) ∧ V.cell? ⟨b, o + j * 3 + 1, none⟩ = some (.int .i64 y.b) ∧ V.cell? ⟨b, o + j * 3 + 2, none⟩ = some (.bool y.n)) := by
            intro V hV
            have hbV : Below w.heap.size w V := Hb.out.trans (hV.mono Hb.out.size)
            exact ⟨below_cell hbV y0, below_cell hbV y1, below_cell hbV y2⟩
          cases hle : lessE y x with
          | false =>
            rw [hle] at HO
            obtain rfl : r = false := HF.out k (by rw [Hlen.out]; exact hlt) (by
              unfold okE; rw [hx.out, hkj]; simp only [hy.out]; simp [hle])
            clear hw gl hx Hp hk0 Hok Hup hy hA hkj hbw y0 y1 y2 hle
            go_wp2_with fail
            refine drawnS mixed _ (Below wr.heap.size wr) rfl (by kernel_rfl) rfl (Below.drew (Below.refl _ _)) ?_
            have hyu : undef = Value.tuple #[] := rfl
            iterate 7
              apply seqS_op
              · intro W hW
                have k0 := (HK.out W hW).1
                have k1 := (HK.out W hW).2.1
                have k2 := (HK.out W hW).2.2.1
                have k3 := (HK.out W hW).2.2.2.1
                have k4 := (HK.out W hW).2.2.2.2.1
                go_wp2_with fail
                exact ⟨rfl, rfl, fun d hd => by cases hd; simp only [List.getElem?_toArray, List.getElem?_cons_succ, List.getElem?_cons_zero]; rfl, hW⟩
              simp only [Act.put, List.setIfInBounds_toArray, List.set_cons_succ, List.set_cons_zero]
            apply seqS_op
            · intro W hW
              go_wp2_with fail
              refine (HW.out W).mono ?_
              rintro e w1 ⟨rfl, hb1⟩
              go_wp2_with fail
              exact ⟨rfl, rfl, fun d hd => by cases hd; simp only [List.getElem?_toArray, List.getElem?_cons_succ, List.getElem?_cons_zero]; rfl, hW.trans (hb1.mono hW.size)⟩
            simp only [Act.put, List.setIfInBounds_toArray, List.set_cons_succ, List.set_cons_zero]
            iterate 16
              apply seqS_op
              · intro W hW
                have k0 := (HK.out W hW).1
                have k1 := (HK.out W hW).2.1
                have k2 := (HK.out W hW).2.2.1
                have k3 := (HK.out W hW).2.2.2.1
                have k4 := (HK.out W hW).2.2.2.2.1
                have y0 := (HY.out W hW).1
                have y1 := (HY.out W hW).2.1
                have y2 := (HY.out W hW).2.2
                go_wp2_with fail
                exact ⟨rfl, rfl, fun d hd => by cases hd; simp only [List.getElem?_toArray, List.getElem?_cons_succ, List.getElem?_cons_zero]; rfl, hW⟩
              simp only [Act.put, List.setIfInBounds_toArray, List.set_cons_succ, List.set_cons_zero]
            apply seqS_op
            · intro W hW
              go_wp2_with fail
              refine (HO.out W).mono ?_
              rintro e w1 ⟨rfl, hb1⟩
              go_wp2_with fail
              exact ⟨rfl, rfl, fun d hd => by cases hd; simp only [List.getElem?_toArray, List.getElem?_cons_succ, List.getElem?_cons_zero]; rfl, hW.trans (hb1.mono hW.size)⟩
            simp only [Act.put, List.setIfInBounds_toArray, List.set_cons_succ, List.set_cons_zero]
            iterate 3
              apply seqS_op
              · intro W hW
                go_wp2_with fail
                exact ⟨rfl, rfl, fun d hd => by cases hd; simp only [List.getElem?_toArray, List.getElem?_cons_succ, List.getElem?_cons_zero]; rfl, hW⟩
              simp only [Act.put, List.setIfInBounds_toArray, List.set_cons_succ, List.set_cons_zero]
            clear hyu
            apply seqS_end
            intro W hW
            have HE := Lib.hid (HK.out W hW).2.2.2.2.2.1
            clear hW
            go_wp2_with fail
            go_ret
            exact ⟨rfl, HE.out⟩
          | true =>
            rw [hle] at HO
            have Hp1 := Lib.hid (Hup.out (Hok.out (.inr ⟨j, y, hkj, hy.out, hle⟩)))
            clear hw gl hx Hp hk0 Hok Hup hy hA hkj hbw y0 y1 y2 hle
            go_wp2_with fail
            refine drawnS mixed _ (Below wr.heap.size wr) rfl (by kernel_rfl) rfl (Below.drew (Below.refl _ _)) ?_
            have hyu : undef = Value.tuple #[] := rfl
            iterate 7
              apply seqS_op
              · intro W hW
                have k0 := (HK.out W hW).1
                have k1 := (HK.out W hW).2.1
                have k2 := (HK.out W hW).2.2.1
                have k3 := (HK.out W hW).2.2.2.1
                have k4 := (HK.out W hW).2.2.2.2.1
                go_wp2_with fail
                exact ⟨rfl, rfl, fun d hd => by cases hd; simp only [List.getElem?_toArray, List.getElem?_cons_succ, List.getElem?_cons_zero]; rfl, hW⟩
              simp only [Act.put, List.setIfInBounds_toArray, List.set_cons_succ, List.set_cons_zero]
            apply seqS_op
            · intro W hW
              go_wp2_with fail
              refine (HW.out W).mono ?_
              rintro e w1 ⟨rfl, hb1⟩
              go_wp2_with fail
              exact ⟨rfl, rfl, fun d hd => by cases hd; simp only [List.getElem?_toArray, List.getElem?_cons_succ, List.getElem?_cons_zero]; rfl, hW.trans (hb1.mono hW.size)⟩
            simp only [Act.put, List.setIfInBounds_toArray, List.set_cons_succ, List.set_cons_zero]
            iterate 16
              apply seqS_op
              · intro W hW
                have k0 := (HK.out W hW).1
                have k1 := (HK.out W hW).2.1
                have k2 := (HK.out W hW).2.2.1
                have k3 := (HK.out W hW).2.2.2.1
                have k4 := (HK.out W hW).2.2.2.2.1
                have y0 := (HY.out W hW).1
                have y1 := (HY.out W hW).2.1
                have y2 := (HY.out W hW).2.2
                go_wp2_with fail
                exact ⟨rfl, rfl, fun d hd => by cases hd; simp only [List.getElem?_toArray, List.getElem?_cons_succ, List.getElem?_cons_zero]; rfl, hW⟩
              simp only [Act.put, List.setIfInBounds_toArray, List.set_cons_succ, List.set_cons_zero]
            apply seqS_op
            · intro W hW
              go_wp2_with fail
              refine (HO.out W).mono ?_
              rintro e w1 ⟨rfl, hb1⟩
              go_wp2_with fail
              exact ⟨rfl, rfl, fun d hd => by cases hd; simp only [List.getElem?_toArray, List.getElem?_cons_succ, List.getElem?_cons_zero]; rfl, hW.trans (hb1.mono hW.size)⟩
            simp only [Act.put, List.setIfInBounds_toArray, List.set_cons_succ, List.set_cons_zero]
            iterate 3
              apply seqS_op
              · intro W hW
                go_wp2_with fail
                exact ⟨rfl, rfl, fun d hd => by cases hd; simp only [List.getElem?_toArray, List.getElem?_cons_succ, List.getElem?_cons_zero]; rfl, hW⟩
              simp only [Act.put, List.setIfInBounds_toArray, List.set_cons_succ, List.set_cons_zero]
            clear hyu
            apply seqS_end
            intro W hW
            have HE := Lib.hid (HK.out W hW).2.2.2.2.2.1
            have HE2 := Lib.hid (HK.out W hW).2.2.2.2.2.2
            clear hW
            go_wp2_with fail
            go_roundw
            case rel => exact ⟨k + 1, by omega, by go_num, Hp1, HE, HE2⟩
            case measure => simp [intOf]; omega
    · have i1 : ¬ (k : Int) < (m : Int) := by omega
      have hyu : undef = Value.tuple #[] := rfl
      have HAll : Hid (∀ j, j < l.length → okE n l j = true) := fun j hj => Hp.out j (by rw [Hlen.out] at hj; omega)
      by_cases h0 : (0 : Int) ≤ n
      · by_cases h1 : n ≤ 32
        · obtain rfl : r = true := by rw [← Hr.out]; exact rightG_all h0 h1 HAll.out
          clear Hp HAll
          go_wp2_with fail
          go_ret
          exact ⟨rfl, Hb.out⟩
        · obtain rfl : r = false := by rw [← Hr.out]; simp [rightG]; omega
          clear Hp HAll
          go_wp2_with fail
          go_ret
          exact ⟨rfl, Hb.out⟩
      · obtain rfl : r = false := by rw [← Hr.out]; simp [rightG]; omega
        clear Hp HAll
        go_wp2_with fail
        go_ret
        exact ⟨rfl, Hb.out⟩
end Go.Proofs.Ytdbpbchhkdconaa
