/- My own texts DgB2, DgB3, DgB4, Shelf3, as far as this claim needs them. -/
import Derived.Test.YtgphngjniplonaaGreatDoorZp27
import Derived.Test.YtgphngjniplonaaGreatDoorZpd1
set_option linter.unusedVariables false
set_option linter.unusedSimpArgs false
set_option maxRecDepth 1000000
set_option maxHeartbeats 16000000
namespace Go.Proofs.YtgphngjniplonaaGreatDoor
open Go.RowKit Go.Sort Go.Shelf Go.Lib
end Go.Proofs.YtgphngjniplonaaGreatDoor
namespace Go.Proofs.YtgphngjniplonaaGreatDoor
open Go.RowKit
def okE (n : Int) (l : List GEdge) (k : Nat) : Bool := match l[k]? with
  | none => false
  | some x => withinE x n && (match k with
    | 0 => true
    | j + 1 => match l[j]? with
      | none => false
      | some p => lessE p x)
def rightG (n : Int) (l : List GEdge) : Bool := decide (0 ≤ n) && decide (n ≤ 32) && (List.range l.length).all (okE n l)
theorem rightG_all {n : Int} {l : List GEdge} (h0 : 0 ≤ n) (h1 : n ≤ 32) (h : ∀ k, k < l.length → okE n l k = true) : rightG n l = true := by
  simp only [rightG, h0, h1, decide_true, Bool.true_and, List.all_eq_true, List.mem_range]
  exact h
theorem rightG_not {n : Int} {l : List GEdge} {k : Nat} (hk : k < l.length) (h : okE n l k = false) : rightG n l = false := by
  rw [Bool.eq_false_iff]
  intro hh
  simp only [rightG, Bool.and_eq_true, List.all_eq_true, List.mem_range] at hh
  rw [hh.2 k hk] at h
  cases h
theorem ordE_lt (x y : GEdge) : (0 : Int) ≤ ordE x y ↔ lessE x y = false := by
  unfold ordE
  cases lessE x y with
  | true => simp
  | false => simp; split <;> omega
theorem rightG_any (n : Int) (A : Option Addr) (m c : Nat) (l : List GEdge) (w : World) (h : SliceIs Enc.edge w w.heap.size A m c l) : Calls Tryz.prog 19 #[graphV n A m c] w (RetBool (rightG n l) w) := by
  by_cases h0 : n < 0
  · rw [show rightG n l = false by simp [rightG]; omega]
    clear h
    go_enter Tryz.func19, Tryz.ntmps19
    go_wp2_with fail
    go_ret
    exact ⟨rfl, belowA (Below.refl _ _) _⟩
  by_cases h1 : (32 : Int) < n
  · rw [show rightG n l = false by simp [rightG]; omega]
    clear h
    go_enter Tryz.func19, Tryz.ntmps19
    go_wp2_with fail
    go_ret
    exact ⟨rfl, belowA (Below.refl _ _) _⟩
  have mixed : Tryz.prog.follows .mixedOrders = true := by kernel_rfl
  have hm := h.bound
  have Hlen := Lib.hid h.1
  obtain ⟨r, Hr⟩ : ∃ r, Hid (rightG n l = r) := ⟨_, rfl⟩
  rw [Hr.out]
  have HT : Hid ((∀ k, k < l.length → okE n l k = true) → r = true) := fun h => by rw [← Hr.out]; exact rightG_all (by omega) (by omega) h
  have HF : Hid (∀ k, k < l.length → okE n l k = false → r = false) := fun k hk h => by rw [← Hr.out]; exact rightG_not hk h
  have HS := Lib.hid h
  clear h Hr
  go_enter Tryz.func19, Tryz.ntmps19
  go_wp2_with fail
  have hb0 : Below w.heap.size w (w.alloc (.cells #[.int .i64 n, .slice A m c] 31)) := belowA (Below.refl _ _) _
  have hg0 : (w.alloc (.cells #[.int .i64 n, .slice A m c] 31)).heap[w.heap.size]? = some (.cells #[.int .i64 n, .slice A m c] 31 (0, 0)) := heapNew rfl
  generalize w.alloc (.cells #[.int .i64 n, .slice A m c] 31) = wa at hb0 hg0 ⊢
  have Hb0 := Lib.hid hb0
  have Hg0 := Lib.hid hg0
  clear hb0 hg0
  go_loopw [3, 4, 16] (fun _ _ i wr => ∃ k : Nat, k ≤ m ∧ i = .int .i64 k ∧ Hid (∀ j, j < k → okE n l j = true) ∧ Hid (Below w.heap.size w wr) ∧ Hid (wr.heap[w.heap.size]? = some (.cells #[.int .i64 n, .slice A m c] 31 (0, 0)))) (fun _ _ i _ => m - (intOf i).toNat)
  case atStart => exact ⟨0, by omega, rfl, (fun j hj => by omega), Hb0, Hg0⟩
  case round =>
    obtain ⟨k, hk, rfl, Hp, Hb, Hg⟩ := hrel
    have i0 : (0 : Int) ≤ (k : Int) := by omega
    by_cases hlt : k < m
    · have i1 : (k : Int) < (m : Int) := by omega
      obtain ⟨b, o, x, rfl, hb, hx, x0, x1, x2, -⟩ := (HS.out.mono Hb.out.size Hb.out.block).edge_at hlt
      have HW := Lib.hid (fun W => withinE_any x n W)
      have hla : Below wr.heap.size wr (wr.alloc (.cells #[.int .i64 x.a, .int .i64 x.b, .bool x.n] 71)) := belowA (Below.refl _ _) _
      have Hb2 : Hid (Below w.heap.size w (wr.alloc (.cells #[.int .i64 x.a, .int .i64 x.b, .bool x.n] 71))) := Hb.out.trans (hla.mono Hb.out.size)
      have gl := (Array.getElem?_eq_some_iff.1 Hg.out).1
      have HK : Hid (∀ V, Below (wr.heap.size + 1) (wr.alloc (.cells #[.int .i64 x.a, .int .i64 x.b, .bool x.n] 71)) V → V.cell? ⟨w.heap.size, 0, none⟩ = some (.int .i64 n) ∧ V.cell? ⟨w.heap.size, 1, none⟩ = some (.slice (some ⟨b, o, none⟩) m c) ∧
          V.cell? ⟨wr.heap.size, 0, none⟩ = some (.int .i64 x.a) ∧ V.cell? ⟨wr.heap.size, 1, none⟩ = some (.int .i64 x.b) ∧ V.cell? ⟨wr.heap.size, 2, none⟩ = some (.bool x.n)) := by
        intro V hV
        have r1 := (hV.block w.heap.size (by omega)).trans (heapOld (o := .cells #[.int .i64 x.a, .int .i64 x.b, .bool x.n] 71) Hg.out)
        have r2 := (hV.block wr.heap.size (by omega)).trans (heapNew (w := wr) (o := .cells #[.int .i64 x.a, .int .i64 x.b, .bool x.n] 71) (g := wr.heap.size) rfl)
        exact ⟨(cell_of_row _ _ 0 _ _ _ r1).trans rfl, (cell_of_row _ _ 1 _ _ _ r1).trans rfl, (cell_of_row _ _ 0 _ _ _ r2).trans rfl, (cell_of_row _ _ 1 _ _ _ r2).trans rfl, (cell_of_row _ _ 2 _ _ _ r2).trans rfl⟩
      cases hw : withinE x n with
      | false =>
        rw [hw] at HW
        obtain rfl : r = false := HF.out k (by rw [Hlen.out]; exact hlt) (by unfold okE; rw [hx.out]; simp [hw])
        clear hw hla gl hx
        go_wp2_with fail
        refine drawnS mixed _ (Below (wr.heap.size + 1) (wr.alloc (.cells #[.int .i64 x.a, .int .i64 x.b, .bool x.n] 71))) rfl (by kernel_rfl) rfl (Below.drew (Below.refl _ _)) ?_
        iterate 3
          apply seqS_op
          · intro W hW
            obtain ⟨k1, k2, k3, k4, k5⟩ := HK.out W hW
            go_wp2_with fail
            exact ⟨rfl, rfl, fun d hd => by cases hd; simp only [List.getElem?_toArray, List.getElem?_cons_succ, List.getElem?_cons_zero]; rfl, hW⟩
          simp only [Act.put, List.setIfInBounds_toArray, List.set_cons_succ, List.set_cons_zero]
        apply seqS_op
        · intro W hW
          go_wp2_with fail
          refine (HW.out W).mono ?_
          rintro e w1 ⟨rfl, hb1⟩
          go_wp2_with fail
          exact ⟨rfl, rfl, fun d hd => by cases hd; simp only [List.getElem?_toArray, List.getElem?_cons_succ, List.getElem?_cons_zero]; rfl, hW.trans (hb1.mono (by have := hW.size; simp at this; omega))⟩
        simp only [Act.put, List.setIfInBounds_toArray, List.set_cons_succ, List.set_cons_zero]
        have hyu : undef = Value.tuple #[] := rfl
        iterate 16
          apply seqS_op
          · intro W hW
            go_wp2_with fail
            exact ⟨rfl, rfl, fun d hd => by cases hd; simp only [List.getElem?_toArray, List.getElem?_cons_succ, List.getElem?_cons_zero]; rfl, hW⟩
          simp only [Act.put, List.setIfInBounds_toArray, List.set_cons_succ, List.set_cons_zero]
        clear hyu
        apply seqS_end
        intro W hW
        go_wp2_with fail
        go_ret
        exact ⟨rfl, Hb2.out.trans (hW.mono (by have := Hb2.out.size; simp at this; omega))⟩
      | true =>
        rw [hw] at HW
        have Hok : Hid ((k = 0 ∨ ∃ (j : Nat) (y : GEdge), k = j + 1 ∧ l[j]? = some y ∧ lessE y x = true) → okE n l k = true) := by
          intro hh
          unfold okE; rw [hx.out]
          rcases hh with rfl | ⟨j, y, rfl, hy, hl⟩
          · simp [hw]
          · simp [hw, hy, hl]
        by_cases hk0 : k = 0
        · have Hp1 : Hid (∀ j, j < k + 1 → okE n l j = true) := fun j hj => by
            rcases Nat.lt_or_ge j k with hh | hh
            · exact Hp.out j hh
            · obtain rfl : j = k := by omega
              exact Hok.out (.inl hk0)
          have k6 : ¬ ((0 : Int) < (k : Int)) := by omega
          have HN : Hid (∀ W, (Below (wr.heap.size + 1) (wr.alloc (.cells #[.int .i64 x.a, .int .i64 x.b, .bool x.n] 71))) W → Below w.heap.size w W ∧ W.heap[w.heap.size]? = some (.cells #[.int .i64 n, .slice (some ⟨b, o, none⟩) m c] 31 (0, 0))) := fun W hW =>
            ⟨Hb2.out.trans (hW.mono (by have := Hb2.out.size; simp at this; omega)), (hW.block w.heap.size (by omega)).trans (heapOld (o := .cells #[.int .i64 x.a, .int .i64 x.b, .bool x.n] 71) Hg.out)⟩
          clear hw hla gl hx Hp hk0 Hok
          go_wp2_with fail
          refine drawnS mixed _ (Below (wr.heap.size + 1) (wr.alloc (.cells #[.int .i64 x.a, .int .i64 x.b, .bool x.n] 71))) rfl (by kernel_rfl) rfl (Below.drew (Below.refl _ _)) ?_
          have hyu : undef = Value.tuple #[] := rfl
          iterate 3
            apply seqS_op
            · intro W hW
              obtain ⟨k1, k2, k3, k4, k5⟩ := HK.out W hW
              go_wp2_with fail
              exact ⟨rfl, rfl, fun d hd => by cases hd; simp only [List.getElem?_toArray, List.getElem?_cons_succ, List.getElem?_cons_zero]; rfl, hW⟩
            simp only [Act.put, List.setIfInBounds_toArray, List.set_cons_succ, List.set_cons_zero]
          apply seqS_op
          · intro W hW
            go_wp2_with fail
            refine (HW.out W).mono ?_
            rintro e w1 ⟨rfl, hb1⟩
            go_wp2_with fail
            exact ⟨rfl, rfl, fun d hd => by cases hd; simp only [List.getElem?_toArray, List.getElem?_cons_succ, List.getElem?_cons_zero]; rfl, hW.trans (hb1.mono (by have := hW.size; simp at this; omega))⟩
          simp only [Act.put, List.setIfInBounds_toArray, List.set_cons_succ, List.set_cons_zero]
          iterate 16
            apply seqS_op
            · intro W hW
              go_wp2_with fail
              exact ⟨rfl, rfl, fun d hd => by cases hd; simp only [List.getElem?_toArray, List.getElem?_cons_succ, List.getElem?_cons_zero]; rfl, hW⟩
            simp only [Act.put, List.setIfInBounds_toArray, List.set_cons_succ, List.set_cons_zero]
          clear hyu
          apply seqS_end
          intro W hW
          obtain ⟨hn1, hn2⟩ := HN.out W hW
          have Hn1 := Lib.hid hn1
          have Hn2 := Lib.hid hn2
          clear hn1 hn2 hW HN
          go_wp2_with fail
          go_roundw
          case rel => exact ⟨k + 1, by omega, by go_num, Hp1, Hn1, Hn2⟩
          case measure => simp [intOf]; omega
        · have k6 : (0 : Int) < (k : Int) := by omega
          obtain ⟨j, hj⟩ : ∃ j : Nat, (k : Int) - 1 = (j : Int) := ⟨k - 1, by omega⟩
          have j0 : (0 : Int) ≤ (j : Int) := by omega
          have j1 : (j : Int) < (m : Int) := by omega
          obtain ⟨b', o', y, hA, hbw, hy, y0, y1, y2, -⟩ := HS.out.edge_at (i := j) (by omega)
          obtain ⟨rfl, rfl⟩ : b = b' ∧ o = o' := by injection hA with hA; injection hA with h1 h2; exact ⟨h1, h2⟩
          have hkj : k = j + 1 := by omega
          have HO := Lib.hid (fun W => order_any y x W)
          have HY : Hid (∀ V, (Below (wr.heap.size + 1) (wr.alloc (.cells #[.int .i64 x.a, .int .i64 x.b, .bool x.n] 71))) V → V.cell? ⟨b, o + j * 3, none⟩ = some (.int .i64 y.a) ∧ V.cell? ⟨b, o + j * 3 + 1, none⟩ = some (.int .i64 y.b) ∧ V.cell? ⟨b, o + j * 3 + 2, none⟩ = some (.bool y.n)) := by
            intro V hV
            have hbV : Below w.heap.size w V := Hb2.out.trans (hV.mono (by have := Hb2.out.size; simp at this; omega))
            exact ⟨below_cell hbV y0, below_cell hbV y1, below_cell hbV y2⟩
          have HN : Hid (∀ W, (Below (wr.heap.size + 1) (wr.alloc (.cells #[.int .i64 x.a, .int .i64 x.b, .bool x.n] 71))) W → Below w.heap.size w W ∧ W.heap[w.heap.size]? = some (.cells #[.int .i64 n, .slice (some ⟨b, o, none⟩) m c] 31 (0, 0))) := fun W hW =>
            ⟨Hb2.out.trans (hW.mono (by have := Hb2.out.size; simp at this; omega)), (hW.block w.heap.size (by omega)).trans (heapOld (o := .cells #[.int .i64 x.a, .int .i64 x.b, .bool x.n] 71) Hg.out)⟩
          have Hgo : Hid ((0 : Int) ≤ ordE y x → r = false) := fun h => HF.out k (by rw [Hlen.out]; exact hlt) (by
            unfold okE; rw [hx.out, hkj]; simp only [hy.out]
            have := (ordE_lt y x).1 h
            simp [this])
          have Hp1 : Hid (¬ (0 : Int) ≤ ordE y x → ∀ i, i < k + 1 → okE n l i = true) := fun h i hi => by
            rcases Nat.lt_or_ge i k with hh | hh
            · exact Hp.out i hh
            · obtain rfl : i = k := by omega
              refine Hok.out (.inr ⟨j, y, hkj, hy.out, ?_⟩)
              cases hle : lessE y x with
              | true => rfl
              | false => exact absurd ((ordE_lt y x).2 hle) h
          generalize ordE y x = oz at *
          clear hw hla gl hx Hp hk0 Hok hy hA hkj hbw y0 y1 y2
          by_cases hoz : (0 : Int) ≤ oz
          · obtain rfl : r = false := Hgo.out hoz
            go_wp2_with fail
            refine drawnS mixed _ (Below (wr.heap.size + 1) (wr.alloc (.cells #[.int .i64 x.a, .int .i64 x.b, .bool x.n] 71))) rfl (by kernel_rfl) rfl (Below.drew (Below.refl _ _)) ?_
            iterate 3
              apply seqS_op
              · intro W hW
                obtain ⟨k1, k2, k3, k4, k5⟩ := HK.out W hW
                go_wp2_with fail
                exact ⟨rfl, rfl, fun d hd => by cases hd; simp only [List.getElem?_toArray, List.getElem?_cons_succ, List.getElem?_cons_zero]; rfl, hW⟩
              simp only [Act.put, List.setIfInBounds_toArray, List.set_cons_succ, List.set_cons_zero]
            apply seqS_op
            · intro W hW
              go_wp2_with fail
              refine (HW.out W).mono ?_
              rintro e w1 ⟨rfl, hb1⟩
              go_wp2_with fail
              exact ⟨rfl, rfl, fun d hd => by cases hd; simp only [List.getElem?_toArray, List.getElem?_cons_succ, List.getElem?_cons_zero]; rfl, hW.trans (hb1.mono (by have := hW.size; simp at this; omega))⟩
            simp only [Act.put, List.setIfInBounds_toArray, List.set_cons_succ, List.set_cons_zero]
            iterate 6
              apply seqS_op
              · intro W hW
                go_wp2_with fail
                exact ⟨rfl, rfl, fun d hd => by cases hd; simp only [List.getElem?_toArray, List.getElem?_cons_succ, List.getElem?_cons_zero]; rfl, hW⟩
              simp only [Act.put, List.setIfInBounds_toArray, List.set_cons_succ, List.set_cons_zero]
            apply seqS_op
            · intro W hW
              have k2 := (HK.out W hW).2.1
              go_wp2_with fail
              exact ⟨rfl, rfl, fun d hd => by cases hd; simp only [List.getElem?_toArray, List.getElem?_cons_succ, List.getElem?_cons_zero]; rfl, hW⟩
            simp only [Act.put, List.setIfInBounds_toArray, List.set_cons_succ, List.set_cons_zero]
            iterate 3
              apply seqS_op
              · intro W hW
                go_wp2_with fail
                exact ⟨rfl, rfl, fun d hd => by cases hd; simp only [List.getElem?_toArray, List.getElem?_cons_succ, List.getElem?_cons_zero]; rfl, hW⟩
              simp only [Act.put, List.setIfInBounds_toArray, List.set_cons_succ, List.set_cons_zero]
            apply seqS_op
            · intro W hW
              have y0 := (HY.out W hW).1
              have y1 := (HY.out W hW).2.1
              have y2 := (HY.out W hW).2.2
              go_wp2_with fail
              exact ⟨rfl, rfl, fun d hd => by cases hd; simp only [List.getElem?_toArray, List.getElem?_cons_succ, List.getElem?_cons_zero]; rfl, hW⟩
            simp only [Act.put, List.setIfInBounds_toArray, List.set_cons_succ, List.set_cons_zero]
            apply seqS_op
            · intro W hW
              have k3 := (HK.out W hW).2.2.1
              have k4 := (HK.out W hW).2.2.2.1
              have k5 := (HK.out W hW).2.2.2.2
              go_wp2_with fail
              exact ⟨rfl, rfl, fun d hd => by cases hd; simp only [List.getElem?_toArray, List.getElem?_cons_succ, List.getElem?_cons_zero]; rfl, hW⟩
            simp only [Act.put, List.setIfInBounds_toArray, List.set_cons_succ, List.set_cons_zero]
            apply seqS_op
            · intro W hW
              go_wp2_with fail
              refine (HO.out W).mono ?_
              rintro e w1 ⟨rfl, hb1⟩
              go_wp2_with fail
              exact ⟨rfl, rfl, fun d hd => by cases hd; simp only [List.getElem?_toArray, List.getElem?_cons_succ, List.getElem?_cons_zero]; rfl, hW.trans (hb1.mono (by have := hW.size; simp at this; omega))⟩
            simp only [Act.put, List.setIfInBounds_toArray, List.set_cons_succ, List.set_cons_zero]
            iterate 3
              apply seqS_op
              · intro W hW
                go_wp2_with fail
                exact ⟨rfl, rfl, fun d hd => by cases hd; simp only [List.getElem?_toArray, List.getElem?_cons_succ, List.getElem?_cons_zero]; rfl, hW⟩
              simp only [Act.put, List.setIfInBounds_toArray, List.set_cons_succ, List.set_cons_zero]
            apply seqS_end
            intro W hW
            obtain ⟨hn1, hn2⟩ := HN.out W hW
            have Hn1 := Lib.hid hn1
            clear hn1 hn2 hW HN
            go_wp2_with fail
            go_ret
            exact ⟨rfl, Hn1.out⟩
          · have Hp2 := Lib.hid (Hp1.out hoz)
            go_wp2_with fail
            refine drawnS mixed _ (Below (wr.heap.size + 1) (wr.alloc (.cells #[.int .i64 x.a, .int .i64 x.b, .bool x.n] 71))) rfl (by kernel_rfl) rfl (Below.drew (Below.refl _ _)) ?_
            iterate 3
              apply seqS_op
              · intro W hW
                obtain ⟨k1, k2, k3, k4, k5⟩ := HK.out W hW
                go_wp2_with fail
                exact ⟨rfl, rfl, fun d hd => by cases hd; simp only [List.getElem?_toArray, List.getElem?_cons_succ, List.getElem?_cons_zero]; rfl, hW⟩
              simp only [Act.put, List.setIfInBounds_toArray, List.set_cons_succ, List.set_cons_zero]
            apply seqS_op
            · intro W hW
              go_wp2_with fail
              refine (HW.out W).mono ?_
              rintro e w1 ⟨rfl, hb1⟩
              go_wp2_with fail
              exact ⟨rfl, rfl, fun d hd => by cases hd; simp only [List.getElem?_toArray, List.getElem?_cons_succ, List.getElem?_cons_zero]; rfl, hW.trans (hb1.mono (by have := hW.size; simp at this; omega))⟩
            simp only [Act.put, List.setIfInBounds_toArray, List.set_cons_succ, List.set_cons_zero]
            iterate 6
              apply seqS_op
              · intro W hW
                go_wp2_with fail
                exact ⟨rfl, rfl, fun d hd => by cases hd; simp only [List.getElem?_toArray, List.getElem?_cons_succ, List.getElem?_cons_zero]; rfl, hW⟩
              simp only [Act.put, List.setIfInBounds_toArray, List.set_cons_succ, List.set_cons_zero]
            apply seqS_op
            · intro W hW
              have k2 := (HK.out W hW).2.1
              go_wp2_with fail
              exact ⟨rfl, rfl, fun d hd => by cases hd; simp only [List.getElem?_toArray, List.getElem?_cons_succ, List.getElem?_cons_zero]; rfl, hW⟩
            simp only [Act.put, List.setIfInBounds_toArray, List.set_cons_succ, List.set_cons_zero]
            iterate 3
              apply seqS_op
              · intro W hW
                go_wp2_with fail
                exact ⟨rfl, rfl, fun d hd => by cases hd; simp only [List.getElem?_toArray, List.getElem?_cons_succ, List.getElem?_cons_zero]; rfl, hW⟩
              simp only [Act.put, List.setIfInBounds_toArray, List.set_cons_succ, List.set_cons_zero]
            apply seqS_op
            · intro W hW
              have y0 := (HY.out W hW).1
              have y1 := (HY.out W hW).2.1
              have y2 := (HY.out W hW).2.2
              go_wp2_with fail
              exact ⟨rfl, rfl, fun d hd => by cases hd; simp only [List.getElem?_toArray, List.getElem?_cons_succ, List.getElem?_cons_zero]; rfl, hW⟩
            simp only [Act.put, List.setIfInBounds_toArray, List.set_cons_succ, List.set_cons_zero]
            apply seqS_op
            · intro W hW
              have k3 := (HK.out W hW).2.2.1
              have k4 := (HK.out W hW).2.2.2.1
              have k5 := (HK.out W hW).2.2.2.2
              go_wp2_with fail
              exact ⟨rfl, rfl, fun d hd => by cases hd; simp only [List.getElem?_toArray, List.getElem?_cons_succ, List.getElem?_cons_zero]; rfl, hW⟩
            simp only [Act.put, List.setIfInBounds_toArray, List.set_cons_succ, List.set_cons_zero]
            apply seqS_op
            · intro W hW
              go_wp2_with fail
              refine (HO.out W).mono ?_
              rintro e w1 ⟨rfl, hb1⟩
              go_wp2_with fail
              exact ⟨rfl, rfl, fun d hd => by cases hd; simp only [List.getElem?_toArray, List.getElem?_cons_succ, List.getElem?_cons_zero]; rfl, hW.trans (hb1.mono (by have := hW.size; simp at this; omega))⟩
            simp only [Act.put, List.setIfInBounds_toArray, List.set_cons_succ, List.set_cons_zero]
            iterate 3
              apply seqS_op
              · intro W hW
                go_wp2_with fail
                exact ⟨rfl, rfl, fun d hd => by cases hd; simp only [List.getElem?_toArray, List.getElem?_cons_succ, List.getElem?_cons_zero]; rfl, hW⟩
              simp only [Act.put, List.setIfInBounds_toArray, List.set_cons_succ, List.set_cons_zero]
            apply seqS_end
            intro W hW
            obtain ⟨hn1, hn2⟩ := HN.out W hW
            have Hn1 := Lib.hid hn1
            have Hn2 := Lib.hid hn2
            clear hn1 hn2 hW HN
            go_wp2_with fail
            go_roundw
            case rel => exact ⟨k + 1, by omega, by go_num, Hp2, Hn1, Hn2⟩
            case measure => simp [intOf]; omega
    · have i1 : ¬ (k : Int) < (m : Int) := by omega
      obtain rfl : r = true := HT.out (fun j hj => Hp.out j (by rw [Hlen.out] at hj; omega))
      go_wp2_with fail
      go_ret
      exact ⟨rfl, Hb.out⟩
end Go.Proofs.YtgphngjniplonaaGreatDoor

namespace Go.Proofs.YtgphngjniplonaaGreatDoor
open Go.RowKit Go.Shelf
attribute [local go_sem] Oper.semAt_some
def needsF (a : Int) : Int → List GEdge → List Int
  | _, [] => []
  | last, e :: l => if e.a = a ∧ e.b ≠ last then e.b :: needsF a e.b l else needsF a last l
theorem needsF_mem (a : Int) : ∀ (l : List GEdge) (last b : Int), (b ∈ needsF a last l ∨ b = last) ↔ ((∃ e ∈ l, e.a = a ∧ e.b = b) ∨ b = last)
  | [], last, b => by simp [needsF]
  | e :: l, last, b => by
    unfold needsF
    by_cases h : e.a = a ∧ e.b ≠ last
    · rw [if_pos h, List.mem_cons]
      have ih := needsF_mem a l e.b b
      constructor
      · rintro ((rfl | hh) | hh)
        · exact .inl ⟨e, List.mem_cons_self .., h.1, rfl⟩
        · rcases ih.1 (.inl hh) with ⟨x, hx, hy⟩ | rfl
          · exact .inl ⟨x, List.mem_cons_of_mem _ hx, hy⟩
          · exact .inl ⟨e, List.mem_cons_self .., h.1, rfl⟩
        · exact .inr hh
      · rintro (⟨x, hx, hy⟩ | hh)
        · rcases List.mem_cons.1 hx with rfl | hx
          · exact .inl (.inl hy.2.symm)
          · rcases ih.2 (.inl ⟨x, hx, hy⟩) with hh | hh
            · exact .inl (.inr hh)
            · exact .inl (.inl hh)
        · exact .inr hh
    · rw [if_neg h]
      have ih := needsF_mem a l last b
      rw [ih]
      constructor
      · rintro (⟨x, hx, hy⟩ | hh)
        · exact .inl ⟨x, List.mem_cons_of_mem _ hx, hy⟩
        · exact .inr hh
      · rintro (⟨x, hx, hy⟩ | hh)
        · rcases List.mem_cons.1 hx with rfl | hx
          · right
            rcases Decidable.not_and_iff_or_not.1 h with h1 | h1
            · exact absurd hy.1 h1
            · rw [← hy.2]; exact Decidable.not_not.1 h1
          · exact .inl ⟨x, hx, hy⟩
        · exact .inr hh
def needsG (n : Int) (l : List GEdge) (a : Int) : List Int := if rightG n l = true then needsF a (-1) l else []
def encI (x : Int) : Array Value := #[.int .i64 x]
theorem encI_one (x : Int) : encI x = #[.int .i64 x] := rfl
def RI (L : List Int) (pre : List Int) (x : Int) (_base : Nat) (_W : World) : Prop := (pre ++ [x]) <+: L
theorem needs_any (n : Int) (A : Option Addr) (m c : Nat) (a : Int) (w : World) : Calls Tryz.prog 24 #[graphV n A m c, .int .i64 a] w fun e w' =>
    e = .returned (.func (.func 48) #[] #[.pointer (some ⟨w.heap.size, 0, none⟩), .pointer (some ⟨w.heap.size + 1, 0, none⟩)]) ∧ w' = (w.alloc (.cells #[.int .i64 n, .slice A m c] 31)).alloc (.cells #[.int .i64 a] 3) := by
  go_enter Tryz.func24, Tryz.ntmps24
  go_wp2_with fail
  go_ret
  exact ⟨by simp, rfl⟩
theorem needs_seq {w0 w : World} {n : Int} {A : Option Addr} {m c : Nat} {l : List GEdge} (hl : SliceIs Enc.edge w0 w0.heap.size A m c l) (hb0 : Below w0.heap.size w0 w) {a : Int} {g g2 : Nat} (hg : w.heap[g]? = some (.cells #[.int .i64 n, .slice A m c] 31 (0, 0))) (hg2 : w.heap[g2]? = some (.cells #[.int .i64 a] 3 (0, 0)))
    (S : List Nat) (hgS : g ∉ S) (hgS2 : g2 ∉ S) (hS : ∀ b ∈ S, w0.heap.size ≤ b) :
    SeqR2 Tryz.prog 48 #[.pointer (some ⟨g, 0, none⟩), .pointer (some ⟨g2, 0, none⟩)] encI (RI (needsG n l a)) S (fun xs => Hid (xs = needsG n l a)) (fun pre => Hid (pre <+: needsG n l a)) w := by
  intro lp J Jx W hbW hlp hlW hJ h0 hY
  have HJ := Lib.hid hJ
  have H0 := Lib.hid h0
  have HY := Lib.hid hY
  have gl : g < w.heap.size := (Array.getElem?_eq_some_iff.1 hg).1
  have gl2 : g2 < w.heap.size := (Array.getElem?_eq_some_iff.1 hg2).1
  have hsW := hbW.size
  have hs0 := hb0.size
  have hglW : g < W.heap.size := by omega
  have hglW2 : g2 < W.heap.size := by omega
  have hneq : g ≠ lp := by omega
  have hneq2 : g2 ≠ lp := by omega
  have HK : Hid (∀ V : World, (∀ b, b < W.heap.size → b ≠ lp → b ∉ S → V.heap[b]? = W.heap[b]?) → W.heap.size ≤ V.heap.size → SliceIs Enc.edge V V.heap.size A m c l ∧ V.heap[g]? = some (.cells #[.int .i64 n, .slice A m c] 31 (0, 0)) ∧ V.heap[g2]? = some (.cells #[.int .i64 a] 3 (0, 0))) := by
    intro V hV hz
    have hk : ∀ b, b < w0.heap.size → V.heap[b]? = w0.heap[b]? := fun b hb => (hV b (by omega) (by omega) (fun hbS => by have := hS b hbS; omega)).trans ((hbW.block b (by omega)).trans (hb0.block b hb))
    exact ⟨hl.mono (by omega) hk, (hV g hglW hneq hgS).trans ((hbW.block g gl).trans hg), (hV g2 hglW2 hneq2 hgS2).trans ((hbW.block g2 gl2).trans hg2)⟩
  obtain ⟨hlW', hgW, -⟩ := HK.out W (fun _ _ _ _ => rfl) (Nat.le_refl _)
  have HF := Lib.hid (rightG_any n A m c l W hlW')
  have Hm : Hid (l.length = m) := hl.1
  have hbm := hl.bound
  have c0 : W.cell? ⟨g, 0, none⟩ = some (.int .i64 n) := (cell_of_row _ _ 0 _ _ _ hgW).trans rfl
  have c1 : W.cell? ⟨g, 1, none⟩ = some (.slice A m c) := (cell_of_row _ _ 1 _ _ _ hgW).trans rfl
  obtain ⟨L, HL⟩ : ∃ L, Hid (L = needsG n l a) := ⟨_, rfl⟩
  rw [← HL.out] at HY ⊢
  clear hl hg hg2 hJ h0 hY hlW' hgW
  refine (callsIn_wide (n := 0)).1 ?_
  refine callsIn_of_wp Tryz.func48 rfl trivial ?_ rfl
  simp only [Tryz.ntmps48, List.size_toArray, List.length_cons, List.length_nil, Nat.reduceAdd, Nat.reduceSub, Array.replicate_succ, Array.replicate_zero, List.push_toArray, List.append_toArray, List.nil_append, List.cons_append]
  gi_wp2_with fail
  refine ⟨trivial, rfl, (callsIn_wide.2 HF.out).mono ?_⟩
  rintro e w1 ⟨rfl, hb1⟩
  have hz1 := hb1.size
  have HJ0 : Hid (J W.heap.size [] w1) := H0.out _ w1 hb1 (Nat.le_refl _) hz1
  have HB1 : Hid (∀ b, b < W.heap.size → b ≠ lp → b ∉ S → w1.heap[b]? = W.heap[b]?) := fun b hb _ _ => hb1.block b hb
  clear hb1 H0 HF c0 c1
  cases hfo : rightG n l with
  | false =>
    have HE : Hid ([] = L) := by show _ = _; rw [HL.out]; unfold needsG; rw [hfo]; rfl
    clear hfo
    gi_wp2_with fail
    refine bodyPost_ret (results_none rfl _ _ _) rfl ?_
    exact ⟨⟨_, rfl⟩, .inl ⟨W.heap.size, _, HE, HJ0.out⟩⟩
  | true =>
  have HLs : Hid (L = needsF a (-1) l) := by show _ = _; rw [HL.out]; unfold needsG; rw [hfo]; rfl
  clear hfo HL
  obtain ⟨-, hg1, hg21⟩ := HK.out w1 HB1.out hz1
  have c1 : w1.cell? ⟨g, 1, none⟩ = some (.slice A m c) := (cell_of_row _ _ 1 _ _ _ hg1).trans rfl
  clear hg1 hg21
  gi_wp2_with fail
  clear c1
  gi_loopw [4, 6, 13] (fun la _ i wr => ∃ (k : Nat) (last : Int) (pre : List Int), k ≤ m ∧ i = .int .i64 k ∧ la = .int .i64 last ∧ Hid (L = pre ++ needsF a last (l.drop k)) ∧ Hid (J W.heap.size pre wr) ∧ Hid (∀ b, b < W.heap.size → b ≠ lp → b ∉ S → wr.heap[b]? = W.heap[b]?) ∧ W.heap.size ≤ wr.heap.size) (fun _ _ i _ => m - (intOf i).toNat)
  case atStart => exact ⟨0, -1, [], by omega, rfl, rfl, by rw [List.drop_zero]; exact HLs, HJ0, HB1, hz1⟩
  case round =>
    obtain ⟨k, last, pre, hk, rfl, rfl, HLk, HJk, HBk, hNk⟩ := hrel
    have i0 : (0 : Int) ≤ (k : Int) := by omega
    by_cases hlt : k < m
    · have i1 : (k : Int) < (m : Int) := by omega
      obtain ⟨hlr, hgr, hg2r⟩ := HK.out wr HBk.out hNk
      obtain ⟨b, o, x, hA, hbl, hx, x0, x1, x2, -⟩ := hlr.edge_at hlt
      try simp only at hA
      subst hA
      have Hdrop : Hid (l.drop k = x :: l.drop (k + 1)) := by
        show _ = _
        rw [List.drop_eq_getElem_cons (by rw [Hm.out]; exact hlt)]
        have := hx.out
        rw [List.getElem?_eq_getElem (by rw [Hm.out]; exact hlt)] at this
        injection this with this
        rw [this]
      have hba : Below wr.heap.size wr (wr.alloc (.cells #[.int .i64 x.a, .int .i64 x.b, .bool x.n] 71)) := belowA (Below.refl _ _) _
      have c2 : (wr.alloc (.cells #[.int .i64 x.a, .int .i64 x.b, .bool x.n] 71)).cell? ⟨g2, 0, none⟩ = some (.int .i64 a) := cellA ((cell_of_row _ _ 0 _ _ _ hg2r).trans rfl)
      have Hba := Lib.hid hba
      clear hlr hgr hg2r hx hba
      by_cases h1 : x.a = a
      · have z1 : (x.a != a) = false := by simp [h1]
        by_cases h2 : x.b = last
        · have z2 : (x.b == last) = true := by simp [h2]
          have HL2 : Hid (L = pre ++ needsF a last (l.drop (k + 1))) := by
            show _ = _
            rw [HLk.out, Hdrop.out]
            conv => lhs; unfold needsF
            rw [if_neg (by simp [h2])]
          have HB2 : Hid (∀ b, b < W.heap.size → b ≠ lp → b ∉ S → (wr.alloc (.cells #[.int .i64 x.a, .int .i64 x.b, .bool x.n] 71)).heap[b]? = W.heap[b]?) := fun b hb hn hs => (Hba.out.block b (by omega)).trans (HBk.out b hb hn hs)
          have HJ2 : Hid (J W.heap.size pre (wr.alloc (.cells #[.int .i64 x.a, .int .i64 x.b, .bool x.n] 71))) := HJ.out _ _ _ _ HJk.out Hba.out
          clear h1 h2 HLk HJk HBk Hba Hdrop
          gi_wp2_with fail
          go_roundw
          case rel => exact ⟨k + 1, last, pre, by omega, by go_num, rfl, HL2, HJ2, HB2, by simp; omega⟩
          case measure => simp [intOf]; omega
        · have z2 : (x.b == last) = false := by simp [h2]
          have HL2 : Hid (L = pre ++ [x.b] ++ needsF a x.b (l.drop (k + 1))) := by
            show _ = _
            rw [HLk.out, Hdrop.out]
            conv => lhs; unfold needsF
            rw [if_pos ⟨h1, h2⟩]
            simp
          have HP : Hid ((pre ++ [x.b]) <+: L) := by show _ <+: _; rw [HL2.out]; exact List.prefix_append _ _
          have HYs := Lib.hid (fun mm => HY.out mm W.heap.size pre x.b wr _ HJk.out Hba.out HP.out)
          obtain ⟨fn, tmps, assign, body, hy, hR⟩ := HYs.out 0
          have HRR := Lib.hid hR
          rw [encI_one] at hy
          clear hR HYs h1 h2
          gi_wp2_with fail
          refine ⟨rfl, HRR.out.mono ?_⟩
          rintro e w4 (⟨rfl, hj, hz4, hbl4, hfr⟩ | ⟨rfl, hj⟩)
          · have HJ4 := Lib.hid hj
            have HB4 : Hid (∀ b, b < W.heap.size → b ≠ lp → b ∉ S → w4.heap[b]? = W.heap[b]?) := fun b hb hbl' hbS => (hbl4 b hb hbS hbl').trans ((Hba.out.block b (by omega)).trans (HBk.out b hb hbl' hbS))
            have hz5 : W.heap.size ≤ w4.heap.size := by have := Hba.out.size; omega
            clear hj hbl4 hfr hy HRR Hba HBk HJk HLk
            gi_wp2_with fail
            go_roundw
            case rel => exact ⟨k + 1, x.b, pre ++ [x.b], by omega, by go_num, rfl, HL2, HJ4, HB4, hz5⟩
            case measure => simp [intOf]; omega
          · have HJ4 := Lib.hid hj
            clear hj hy HRR Hba HBk HJk
            gi_wp2_with fail
            refine bodyPost_ret (results_none rfl _ _ _) rfl ?_
            exact ⟨⟨_, rfl⟩, .inr ⟨W.heap.size, _, HP, HJ4.out⟩⟩
      · have z1 : (x.a != a) = true := by simp [h1]
        have HL2 : Hid (L = pre ++ needsF a last (l.drop (k + 1))) := by
          show _ = _
          rw [HLk.out, Hdrop.out]
          conv => lhs; unfold needsF
          rw [if_neg (by simp [h1])]
        have HB2 : Hid (∀ b, b < W.heap.size → b ≠ lp → b ∉ S → (wr.alloc (.cells #[.int .i64 x.a, .int .i64 x.b, .bool x.n] 71)).heap[b]? = W.heap[b]?) := fun b hb hn hs => (Hba.out.block b (by omega)).trans (HBk.out b hb hn hs)
        have HJ2 : Hid (J W.heap.size pre (wr.alloc (.cells #[.int .i64 x.a, .int .i64 x.b, .bool x.n] 71))) := HJ.out _ _ _ _ HJk.out Hba.out
        clear h1 HLk HJk HBk Hba Hdrop
        gi_wp2_with fail
        go_roundw
        case rel => exact ⟨k + 1, last, pre, by omega, by go_num, rfl, HL2, HJ2, HB2, by simp; omega⟩
        case measure => simp [intOf]; omega
    · have i1 : ¬ (k : Int) < (m : Int) := by omega
      have HE : Hid (pre = L) := by
        show _ = _
        rw [HLk.out, List.drop_of_length_le (by rw [Hm.out]; omega)]
        simp [needsF]
      gi_wp2_with fail
      go_end0
      exact ⟨⟨_, rfl⟩, .inl ⟨W.heap.size, _, HE, HJk.out⟩⟩
end Go.Proofs.YtgphngjniplonaaGreatDoor
namespace Go.Proofs.YtgphngjniplonaaGreatDoor
open Go.RowKit Go.Shelf
attribute [local go_sem] Oper.semAt_some
end Go.Proofs.YtgphngjniplonaaGreatDoor
namespace Go.Proofs.YtgphngjniplonaaGreatDoor
open Go.RowKit
end Go.Proofs.YtgphngjniplonaaGreatDoor
namespace Go.Proofs.YtgphngjniplonaaGreatDoor
open Go.RowKit
end Go.Proofs.YtgphngjniplonaaGreatDoor
namespace Go.Proofs.YtgphngjniplonaaGreatDoor
open Go.RowKit Go.Shelf
attribute [local go_sem] Oper.semAt_some
end Go.Proofs.YtgphngjniplonaaGreatDoor

namespace Go.Proofs.YtgphngjniplonaaGreatDoor
open Go.RowKit
end Go.Proofs.YtgphngjniplonaaGreatDoor
namespace Go.Proofs.YtgphngjniplonaaGreatDoor
open Go.RowKit
def hasL (l : List GEdge) (a b : Int) : Bool := l.any (fun e => decide (e.a = a) && decide (e.b = b))
end Go.Proofs.YtgphngjniplonaaGreatDoor
namespace Go.Proofs.YtgphngjniplonaaGreatDoor
open Go.RowKit
end Go.Proofs.YtgphngjniplonaaGreatDoor

namespace Go.Proofs
open Go.Shelf
def Tryz.lays189_ren : Go.Shelf.Ren := ⟨fun | 189 => 49 | 125 => 73 | 257 => 72 | 128 => 107 | 129 => 108 | 294 => 98 | 295 => 99 | 296 => 100 | 297 => 101 | 298 => 102 | 299 => 103 | 216 => 104 | 300 => 105 | 301 => 106 | 328 => 139 | 329 => 140 | 330 => 141 | 331 => 142 | 332 => 143 | 215 => 97 | 343 => 166 | n => n, fun | 28 => 58 | 3 => 3 | 46 => 155 | 0 => 0 | 51 => 185 | 53 => 187 | 4 => 4 | 183 => 178 | 182 => 177 | 131 => 127 | 5 => 5 | 9 => 9 | 218 => 218 | 222 => 222 | 228 => 242 | 229 => 243 | n => n, fun | n => n⟩
theorem Tryz.lays189 : Go.Proofs.Lays.n189 Tryz.prog Tryz.lays189_ren := {
  mixed := by kernel_rfl
  f125 := Tryz.func73.trans (congrArg some (by kernel_rfl))
  f128 := Tryz.func107.trans (congrArg some (by kernel_rfl))
  f129 := Tryz.func108.trans (congrArg some (by kernel_rfl))
  f189 := Tryz.func49.trans (congrArg some (by kernel_rfl))
  f215 := Tryz.func97.trans (congrArg some (by kernel_rfl))
  f216 := Tryz.func104.trans (congrArg some (by kernel_rfl))
  f257 := Tryz.func72.trans (congrArg some (by kernel_rfl))
  f294 := Tryz.func98.trans (congrArg some (by kernel_rfl))
  f295 := Tryz.func99.trans (congrArg some (by kernel_rfl))
  f296 := Tryz.func100.trans (congrArg some (by kernel_rfl))
  f297 := Tryz.func101.trans (congrArg some (by kernel_rfl))
  f298 := Tryz.func102.trans (congrArg some (by kernel_rfl))
  f299 := Tryz.func103.trans (congrArg some (by kernel_rfl))
  f300 := Tryz.func105.trans (congrArg some (by kernel_rfl))
  f301 := Tryz.func106.trans (congrArg some (by kernel_rfl))
  f328 := Tryz.func139.trans (congrArg some (by kernel_rfl))
  f329 := Tryz.func140.trans (congrArg some (by kernel_rfl))
  f330 := Tryz.func141.trans (congrArg some (by kernel_rfl))
  f331 := Tryz.func142.trans (congrArg some (by kernel_rfl))
  f332 := Tryz.func143.trans (congrArg some (by kernel_rfl))
  f343 := Tryz.func166.trans (congrArg some (by kernel_rfl))
  t0 := Tryz.underlying0
  a0 := Tryz.isAgg0
  z0 := Tryz.sizeOf0
  v0 := Tryz.zeroValue0
  t3 := Tryz.underlying3
  a3 := Tryz.isAgg3
  z3 := Tryz.sizeOf3
  v3 := Tryz.zeroValue3
  t4 := Tryz.underlying4
  a4 := Tryz.isAgg4
  z4 := Tryz.sizeOf4
  v4 := Tryz.zeroValue4
  t5 := Tryz.underlying5
  a5 := Tryz.isAgg5
  z5 := Tryz.sizeOf5
  v5 := Tryz.zeroValue5
  t9 := Tryz.underlying9
  a9 := Tryz.isAgg9
  z9 := Tryz.sizeOf9
  v9 := Tryz.zeroValue9
  t28 := Tryz.underlying58
  a28 := Tryz.isAgg58
  z28 := Tryz.sizeOf58
  v28 := Tryz.zeroValue58
  t46 := Tryz.underlying155
  a46 := Tryz.isAgg155
  z46 := Tryz.sizeOf155
  v46 := Tryz.zeroValue155
  t51 := Tryz.underlying185
  a51 := Tryz.isAgg185
  z51 := Tryz.sizeOf185
  v51 := Tryz.zeroValue185
  t53 := Tryz.underlying187
  a53 := Tryz.isAgg187
  z53 := Tryz.sizeOf187
  v53 := Tryz.zeroValue187
  t131 := Tryz.underlying127
  a131 := Tryz.isAgg127
  z131 := Tryz.sizeOf127
  v131 := Tryz.zeroValue127
  t182 := Tryz.underlying177
  a182 := Tryz.isAgg177
  z182 := Tryz.sizeOf177
  v182 := Tryz.zeroValue177
  t183 := Tryz.underlying178
  a183 := Tryz.isAgg178
  z183 := Tryz.sizeOf178
  v183 := Tryz.zeroValue178
  t218 := Tryz.underlying218
  a218 := Tryz.isAgg218
  z218 := Tryz.sizeOf218
  v218 := Tryz.zeroValue218
  t222 := Tryz.underlying222
  a222 := Tryz.isAgg222
  z222 := Tryz.sizeOf222
  v222 := Tryz.zeroValue222
  t228 := Tryz.underlying242
  a228 := Tryz.isAgg242
  z228 := Tryz.sizeOf242
  v228 := Tryz.zeroValue242
  t229 := Tryz.underlying243
  a229 := Tryz.isAgg243
  z229 := Tryz.sizeOf243
  v229 := Tryz.zeroValue243 }
open Go.Sort Go.RowKit in
theorem Tryz.slices_Sort_int (blk off cap : Nat) (zs : List Int) (w : World) (hH : Holds (Value.int .i64) w blk off zs.toArray) (hblk : blk < w.heap.size) (hsz : zs.length < 4611686018427387904) :
    Calls Tryz.prog 49 #[.slice (some ⟨blk, off, none⟩) zs.length cap] w fun e w' =>
      e = .returned (.tuple #[]) ∧ ∃ n os, w' = grow (putRow (Value.int .i64) (Sort.ahead w n) blk off (zs.mergeSort fun x y => decide (x ≤ y)).toArray) os := Any.slices_Sort_int Tryz.lays189 blk off cap zs w hH hblk hsz
def Tryz.lays112_ren : Go.Shelf.Ren := ⟨fun | 112 => 47 | n => n, fun | 28 => 58 | 3 => 3 | 4 => 4 | 0 => 0 | n => n, fun | n => n⟩
theorem Tryz.lays112 : Go.Proofs.Lays.n112 Tryz.prog Tryz.lays112_ren := {
  mixed := by kernel_rfl
  f112 := Tryz.func47.trans (congrArg some (by kernel_rfl))
  t0 := Tryz.underlying0
  a0 := Tryz.isAgg0
  z0 := Tryz.sizeOf0
  v0 := Tryz.zeroValue0
  t3 := Tryz.underlying3
  a3 := Tryz.isAgg3
  z3 := Tryz.sizeOf3
  v3 := Tryz.zeroValue3
  t4 := Tryz.underlying4
  a4 := Tryz.isAgg4
  z4 := Tryz.sizeOf4
  v4 := Tryz.zeroValue4
  t28 := Tryz.underlying58
  a28 := Tryz.isAgg58
  z28 := Tryz.sizeOf58
  v28 := Tryz.zeroValue58 }
open Go.RowKit Go.Lib Go.Sort in
theorem Tryz.slices_Reverse_int_cells (b off n c : Nat) (zs : List Int) (w : World) (hz : n ≤ zs.length) (hbig : n ≤ 9223372036854775807) (hc : ∀ j, j < zs.length → w.cell? ⟨b, off + j, none⟩ = some (.int .i64 (zs.getD j 0))) (hf : ∀ j, j < n → w.frozen? ⟨b, off + j, none⟩ = false) :
    Calls Tryz.prog 47 #[.slice (some ⟨b, off, none⟩) n c] w fun e w' => e = .returned (.tuple #[]) ∧ ∃ q, w' = (w.drewN q).setCells b off ((zs.take n).reverse.map (Value.int .i64)) := Any.slices_Reverse_int_cells Tryz.lays112 b off n c zs w hz hbig hc hf
end Go.Proofs
