/- deps.Right and the document's. -/
import Derived.Test.YtdbpbchhkdconaaScG
import Derived.Test.YtdbpbchhkdconaaDrawnS
namespace Go.Proofs.Ytdbpbchhkdconaa
open Go.RowKit

/-- an edge at its place: between nodes, behind the one ahead of it -/
def okE (n : Int) (l : List GEdge) (k : Nat) : Bool := match l[k]? with
  | none => false
  | some x => withinE x n && (match k with
    | 0 => true
    | j + 1 => match l[j]? with
      | none => false
      | some p => lessE p x)
def rightG (n : Int) (l : List GEdge) : Bool := decide (0 ≤ n) && decide (n ≤ 32) && (List.range l.length).all (okE n l)
theorem rightG_all {n : Int} {l : List GEdge} (h0 : 0 ≤ n) (h1 : n ≤ 32) (h : ∀ k, k < l.length → okE n l k = true) : rightG n l = true := by
  simp only [rightG, h0, h1, decide_true, Bool.true_and, List.all_eq_true, List.mem_range]
  exact h
theorem rightG_not {n : Int} {l : List GEdge} {k : Nat} (hk : k < l.length) (h : okE n l k = false) : rightG n l = false := by
  rw [Bool.eq_false_iff]
  intro hh
  simp only [rightG, Bool.and_eq_true, List.all_eq_true, List.mem_range] at hh
  rw [hh.2 k hk] at h
  cases h
theorem ordE_lt (x y : GEdge) : (0 : Int) ≤ ordE x y ↔ lessE x y = false := by
  unfold ordE
  cases lessE x y with
  | true => simp
  | false => simp; split <;> omega
abbrev graphV (n : Int) (A : Option Addr) (m c : Nat) : Value := .agg #[.int .i64 n, .slice A m c]

set_option maxRecDepth 100000 in
set_option maxHeartbeats 4000000 in
theorem right_any (n : Int) (A : Option Addr) (m c : Nat) (l : List GEdge) (w : World) (h : SliceIs Enc.edge w w.heap.size A m c l) : Calls Try.prog 8 #[graphV n A m c] w (RetBool (rightG n l) w) := by
  by_cases h0 : n < 0
  · rw [show rightG n l = false by simp [rightG]; omega]
    clear h
    go_enter Try.func8, Try.ntmps8
    go_wp2_with fail
    go_ret
    exact ⟨rfl, belowA (Below.refl _ _) _⟩
  by_cases h1 : (32 : Int) < n
  · rw [show rightG n l = false by simp [rightG]; omega]
    clear h
    go_enter Try.func8, Try.ntmps8
    go_wp2_with fail
    go_ret
    exact ⟨rfl, belowA (Below.refl _ _) _⟩
  have mixed : Try.prog.follows .mixedOrders = true := by kernel_rfl
  have hm := h.bound
  have Hlen := Lib.hid h.1
  obtain ⟨r, Hr⟩ : ∃ r, Hid (rightG n l = r) := ⟨_, rfl⟩
  rw [Hr.out]
  have HT : Hid ((∀ k, k < l.length → okE n l k = true) → r = true) := fun h => by rw [← Hr.out]; exact rightG_all (by omega) (by omega) h
  have HF : Hid (∀ k, k < l.length → okE n l k = false → r = false) := fun k hk h => by rw [← Hr.out]; exact rightG_not hk h
  have HS := Lib.hid h
  clear h Hr
  go_enter Try.func8, Try.ntmps8
  go_wp2_with fail
  have hb0 : Below w.heap.size w (w.alloc (.cells #[.int .i64 n, .slice A m c] 24)) := belowA (Below.refl _ _) _
  have hg0 : (w.alloc (.cells #[.int .i64 n, .slice A m c] 24)).heap[w.heap.size]? = some (.cells #[.int .i64 n, .slice A m c] 24 (0, 0)) := heapNew rfl
  generalize w.alloc (.cells #[.int .i64 n, .slice A m c] 24) = wa at hb0 hg0 ⊢
  have Hb0 := Lib.hid hb0
  have Hg0 := Lib.hid hg0
  clear hb0 hg0
  go_loopw [3, 4, 16] (fun _ _ i wr => ∃ k : Nat, k ≤ m ∧ i = .int .i64 k ∧ Hid (∀ j, j < k → okE n l j = true) ∧ Hid (Below w.heap.size w wr) ∧ Hid (wr.heap[w.heap.size]? = some (.cells #[.int .i64 n, .slice A m c] 24 (0, 0)))) (fun _ _ i _ => m - (intOf i).toNat)
  case atStart => exact ⟨0, by omega, rfl, (fun j hj => by omega), Hb0, Hg0⟩
  case round =>
    obtain ⟨k, hk, rfl, Hp, Hb, Hg⟩ := hrel
    have i0 : (0 : Int) ≤ (k : Int) := by omega
    by_cases hlt : k < m
    · have i1 : (k : Int) < (m : Int) := by omega
      obtain ⟨b, o, x, rfl, hb, hx, x0, x1, x2, -⟩ := (HS.out.mono Hb.out.size Hb.out.block).edge_at hlt
      have HW := Lib.hid (fun W => within_any x n W)
      have hla : Below wr.heap.size wr (wr.alloc (.cells #[.int .i64 x.a, .int .i64 x.b, .bool x.n] 32)) := belowA (Below.refl _ _) _
      have Hb2 : Hid (Below w.heap.size w (wr.alloc (.cells #[.int .i64 x.a, .int .i64 x.b, .bool x.n] 32))) := Hb.out.trans (hla.mono Hb.out.size)
      have gl := (Array.getElem?_eq_some_iff.1 Hg.out).1
      have HK : Hid (∀ V, Below (wr.heap.size + 1) (wr.alloc (.cells #[.int .i64 x.a, .int .i64 x.b, .bool x.n] 32)) V → V.cell? ⟨w.heap.size, 0, none⟩ = some (.int .i64 n) ∧ V.cell? ⟨w.heap.size, 1, none⟩ = some (.slice (some ⟨b, o, none⟩) m c) ∧
          V.cell? ⟨wr.heap.size, 0, none⟩ = some (.int .i64 x.a) ∧ V.cell? ⟨wr.heap.size, 1, none⟩ = some (.int .i64 x.b) ∧ V.cell? ⟨wr.heap.size, 2, none⟩ = some (.bool x.n)) := by
        intro V hV
        have r1 := (hV.block w.heap.size (by omega)).trans (heapOld (o := .cells #[.int .i64 x.a, .int .i64 x.b, .bool x.n] 32) Hg.out)
        have r2 := (hV.block wr.heap.size (by omega)).trans (heapNew (w := wr) (o := .cells #[.int .i64 x.a, .int .i64 x.b, .bool x.n] 32) (g := wr.heap.size) rfl)
        exact ⟨(cell_of_row _ _ 0 _ _ _ r1).trans rfl, (cell_of_row _ _ 1 _ _ _ r1).trans rfl, (cell_of_row _ _ 0 _ _ _ r2).trans rfl, (cell_of_row _ _ 1 _ _ _ r2).trans rfl, (cell_of_row _ _ 2 _ _ _ r2).trans rfl⟩
      cases hw : withinE x n with
      | false =>
        rw [hw] at HW
        obtain rfl : r = false := HF.out k (by rw [Hlen.out]; exact hlt) (by unfold okE; rw [hx.out]; simp [hw])
        clear hw hla gl hx
        go_wp2_with fail
        refine drawnS mixed _ (Below (wr.heap.size + 1) (wr.alloc (.cells #[.int .i64 x.a, .int .i64 x.b, .bool x.n] 32))) rfl (by kernel_rfl) rfl (Below.drew (Below.refl _ _)) ?_
        iterate 3
          apply seqS_op
          · intro W hW
            obtain ⟨k1, k2, k3, k4, k5⟩ := HK.out W hW
            go_wp2_with fail
            exact ⟨rfl, rfl, fun d hd => by cases hd; simp only [List.getElem?_toArray, List.getElem?_cons_succ, List.getElem?_cons_zero]; rfl, hW⟩
          simp only [Act.put, List.setIfInBounds_toArray, List.set_cons_succ, List.set_cons_zero]
        apply seqS_op
        · intro W hW
          go_wp2_with fail
          refine (HW.out W).mono ?_
          rintro e w1 ⟨rfl, hb1⟩
          go_wp2_with fail
          exact ⟨rfl, rfl, fun d hd => by cases hd; simp only [List.getElem?_toArray, List.getElem?_cons_succ, List.getElem?_cons_zero]; rfl, hW.trans (hb1.mono (by have := hW.size; simp at this; omega))⟩
        simp only [Act.put, List.setIfInBounds_toArray, List.set_cons_succ, List.set_cons_zero]
        have hyu : undef = Value.tuple #[] := rfl
        iterate 16
          apply seqS_op
          · intro W hW
            go_wp2_with fail
            exact ⟨rfl, rfl, fun d hd => by cases hd; simp only [List.getElem?_toArray, List.getElem?_cons_succ, List.getElem?_cons_zero]; rfl, hW⟩
          simp only [Act.put, List.setIfInBounds_toArray, List.set_cons_succ, List.set_cons_zero]
        clear hyu
        apply seqS_end
        intro W hW
        go_wp2_with fail
        go_ret
        exact ⟨rfl, Hb2.out.trans (hW.mono (by have := Hb2.out.size; simp at this; omega))⟩
      | true =>
        rw [hw] at HW
        have Hok : Hid ((k = 0 ∨ ∃ (j : Nat) (y : GEdge), k = j + 1 ∧ l[j]? = some y ∧ lessE y x = true) → okE n l k = true) := by
          intro hh
          unfold okE; rw [hx.out]
          rcases hh with rfl | ⟨j, y, rfl, hy, hl⟩
          · simp [hw]
          · simp [hw, hy, hl]
        by_cases hk0 : k = 0
        · have Hp1 : Hid (∀ j, j < k + 1 → okE n l j = true) := fun j hj => by
            rcases Nat.lt_or_ge j k with hh | hh
            · exact Hp.out j hh
            · obtain rfl : j = k := by omega
              exact Hok.out (.inl hk0)
          have k6 : ¬ ((0 : Int) < (k : Int)) := by omega
          have HN : Hid (∀ W, (Below (wr.heap.size + 1) (wr.alloc (.cells #[.int .i64 x.a, .int .i64 x.b, .bool x.n] 32))) W → Below w.heap.size w W ∧ W.heap[w.heap.size]? = some (.cells #[.int .i64 n, .slice (some ⟨b, o, none⟩) m c] 24 (0, 0))) := fun W hW =>
            ⟨Hb2.out.trans (hW.mono (by have := Hb2.out.size; simp at this; omega)), (hW.block w.heap.size (by omega)).trans (heapOld (o := .cells #[.int .i64 x.a, .int .i64 x.b, .bool x.n] 32) Hg.out)⟩
          clear hw hla gl hx Hp hk0 Hok
          go_wp2_with fail
          refine drawnS mixed _ (Below (wr.heap.size + 1) (wr.alloc (.cells #[.int .i64 x.a, .int .i64 x.b, .bool x.n] 32))) rfl (by kernel_rfl) rfl (Below.drew (Below.refl _ _)) ?_
          have hyu : undef = Value.tuple #[] := rfl
          iterate 3
            apply seqS_op
            · intro W hW
              obtain ⟨k1, k2, k3, k4, k5⟩ := HK.out W hW
              go_wp2_with fail
              exact ⟨rfl, rfl, fun d hd => by cases hd; simp only [List.getElem?_toArray, List.getElem?_cons_succ, List.getElem?_cons_zero]; rfl, hW⟩
            simp only [Act.put, List.setIfInBounds_toArray, List.set_cons_succ, List.set_cons_zero]
          apply seqS_op
          · intro W hW
            go_wp2_with fail
            refine (HW.out W).mono ?_
            rintro e w1 ⟨rfl, hb1⟩
            go_wp2_with fail
            exact ⟨rfl, rfl, fun d hd => by cases hd; simp only [List.getElem?_toArray, List.getElem?_cons_succ, List.getElem?_cons_zero]; rfl, hW.trans (hb1.mono (by have := hW.size; simp at this; omega))⟩
          simp only [Act.put, List.setIfInBounds_toArray, List.set_cons_succ, List.set_cons_zero]
          iterate 16
            apply seqS_op
            · intro W hW
              go_wp2_with fail
              exact ⟨rfl, rfl, fun d hd => by cases hd; simp only [List.getElem?_toArray, List.getElem?_cons_succ, List.getElem?_cons_zero]; rfl, hW⟩
            simp only [Act.put, List.setIfInBounds_toArray, List.set_cons_succ, List.set_cons_zero]
          clear hyu
          apply seqS_end
          intro W hW
          obtain ⟨hn1, hn2⟩ := HN.out W hW
          have Hn1 := Lib.hid hn1
          have Hn2 := Lib.hid hn2
          clear hn1 hn2 hW HN
          go_wp2_with fail
          go_roundw
          case rel => exact ⟨k + 1, by omega, by go_num, Hp1, Hn1, Hn2⟩
          case measure => simp [intOf]; omega
        · have k6 : (0 : Int) < (k : Int) := by omega
          obtain ⟨j, hj⟩ : ∃ j : Nat, (k : Int) - 1 = (j : Int) := ⟨k - 1, by omega⟩
          have j0 : (0 : Int) ≤ (j : Int) := by omega
          have j1 : (j : Int) < (m : Int) := by omega
          obtain ⟨b', o', y, hA, hbw, hy, y0, y1, y2, -⟩ := HS.out.edge_at (i := j) (by omega)
          obtain ⟨rfl, rfl⟩ : b = b' ∧ o = o' := by injection hA with hA; injection hA with h1 h2; exact ⟨h1, h2⟩
          have hkj : k = j + 1 := by omega
          have HO := Lib.hid (fun W => order_any y x W)
          have HY : Hid (∀ V, (Below (wr.heap.size + 1) (wr.alloc (.cells #[.int .i64 x.a, .int .i64 x.b, .bool x.n] 32))) V → V.cell? ⟨b, o + j * 3, none⟩ = some (.int .i64 y.a) ∧ V.cell? ⟨b, o + j * 3 + 1, none⟩ = some (.int .i64 y.b) ∧ V.cell? ⟨b, o + j * 3 + 2, none⟩ = some (.bool y.n)) := by
            intro V hV
            have hbV : Below w.heap.size w V := Hb2.out.trans (hV.mono (by have := Hb2.out.size; simp at this; omega))
            exact ⟨below_cell hbV y0, below_cell hbV y1, below_cell hbV y2⟩
          have HN : Hid (∀ W, (Below (wr.heap.size + 1) (wr.alloc (.cells #[.int .i64 x.a, .int .i64 x.b, .bool x.n] 32))) W → Below w.heap.size w W ∧ W.heap[w.heap.size]? = some (.cells #[.int .i64 n, .slice (some ⟨b, o, none⟩) m c] 24 (0, 0))) := fun W hW =>
            ⟨Hb2.out.trans (hW.mono (by have := Hb2.out.size; simp at this; omega)), (hW.block w.heap.size (by omega)).trans (heapOld (o := .cells #[.int .i64 x.a, .int .i64 x.b, .bool x.n] 32) Hg.out)⟩
          have Hgo : Hid ((0 : Int) ≤ ordE y x → r = false) := fun h => HF.out k (by rw [Hlen.out]; exact hlt) (by
            unfold okE; rw [hx.out, hkj]; simp only [hy.out]
            have := (ordE_lt y x).1 h
            simp [this])
          have Hp1 : Hid (¬ (0 : Int) ≤ ordE y x → ∀ i, i < k + 1 → okE n l i = true) := fun h i hi => by
            rcases Nat.lt_or_ge i k with hh | hh
            · exact Hp.out i hh
            · obtain rfl : i = k := by omega
              refine Hok.out (.inr ⟨j, y, hkj, hy.out, ?_⟩)
              cases hle : lessE y x with
              | true => rfl
              | false => exact absurd ((ordE_lt y x).2 hle) h
          generalize ordE y x = oz at *
          clear hw hla gl hx Hp hk0 Hok hy hA hkj hbw y0 y1 y2
          by_cases hoz : (0 : Int) ≤ oz
          · obtain rfl : r = false := Hgo.out hoz
            go_wp2_with fail
            refine drawnS mixed _ (Below (wr.heap.size + 1) (wr.alloc (.cells #[.int .i64 x.a, .int .i64 x.b, .bool x.n] 32))) rfl (by kernel_rfl) rfl (Below.drew (Below.refl _ _)) ?_
            iterate 3
              apply seqS_op
              · intro W hW
                obtain ⟨k1, k2, k3, k4, k5⟩ := HK.out W hW
                go_wp2_with fail
                exact ⟨rfl, rfl, fun d hd => by cases hd; simp only [List.getElem?_toArray, List.getElem?_cons_succ, List.getElem?_cons_zero]; rfl, hW⟩
              simp only [Act.put, List.setIfInBounds_toArray, List.set_cons_succ, List.set_cons_zero]
            apply seqS_op
            · intro W hW
              go_wp2_with fail
              refine (HW.out W).mono ?_
              rintro e w1 ⟨rfl, hb1⟩
              go_wp2_with fail
              exact ⟨rfl, rfl, fun d hd => by cases hd; simp only [List.getElem?_toArray, List.getElem?_cons_succ, List.getElem?_cons_zero]; rfl, hW.trans (hb1.mono (by have := hW.size; simp at this; omega))⟩
            simp only [Act.put, List.setIfInBounds_toArray, List.set_cons_succ, List.set_cons_zero]
            iterate 6
              apply seqS_op
              · intro W hW
                go_wp2_with fail
                exact ⟨rfl, rfl, fun d hd => by cases hd; simp only [List.getElem?_toArray, List.getElem?_cons_succ, List.getElem?_cons_zero]; rfl, hW⟩
              simp only [Act.put, List.setIfInBounds_toArray, List.set_cons_succ, List.set_cons_zero]
            apply seqS_op
            · intro W hW
              have k2 := (HK.out W hW).2.1
              go_wp2_with fail
              exact ⟨rfl, rfl, fun d hd => by cases hd; simp only [List.getElem?_toArray, List.getElem?_cons_succ, List.getElem?_cons_zero]; rfl, hW⟩
            simp only [Act.put, List.setIfInBounds_toArray, List.set_cons_succ, List.set_cons_zero]
            iterate 3
              apply seqS_op
              · intro W hW
                go_wp2_with fail
                exact ⟨rfl, rfl, fun d hd => by cases hd; simp only [List.getElem?_toArray, List.getElem?_cons_succ, List.getElem?_cons_zero]; rfl, hW⟩
              simp only [Act.put, List.setIfInBounds_toArray, List.set_cons_succ, List.set_cons_zero]
            apply seqS_op
            · intro W hW
              have y0 := (HY.out W hW).1
              have y1 := (HY.out W hW).2.1
              have y2 := (HY.out W hW).2.2
              go_wp2_with fail
              exact ⟨rfl, rfl, fun d hd => by cases hd; simp only [List.getElem?_toArray, List.getElem?_cons_succ, List.getElem?_cons_zero]; rfl, hW⟩
            simp only [Act.put, List.setIfInBounds_toArray, List.set_cons_succ, List.set_cons_zero]
            apply seqS_op
            · intro W hW
              have k3 := (HK.out W hW).2.2.1
              have k4 := (HK.out W hW).2.2.2.1
              have k5 := (HK.out W hW).2.2.2.2
              go_wp2_with fail
              exact ⟨rfl, rfl, fun d hd => by cases hd; simp only [List.getElem?_toArray, List.getElem?_cons_succ, List.getElem?_cons_zero]; rfl, hW⟩
            simp only [Act.put, List.setIfInBounds_toArray, List.set_cons_succ, List.set_cons_zero]
            apply seqS_op
            · intro W hW
              go_wp2_with fail
              refine (HO.out W).mono ?_
              rintro e w1 ⟨rfl, hb1⟩
              go_wp2_with fail
              exact ⟨rfl, rfl, fun d hd => by cases hd; simp only [List.getElem?_toArray, List.getElem?_cons_succ, List.getElem?_cons_zero]; rfl, hW.trans (hb1.mono (by have := hW.size; simp at this; omega))⟩
            simp only [Act.put, List.setIfInBounds_toArray, List.set_cons_succ, List.set_cons_zero]
            iterate 3
              apply seqS_op
              · intro W hW
                go_wp2_with fail
                exact ⟨rfl, rfl, fun d hd => by cases hd; simp only [List.getElem?_toArray, List.getElem?_cons_succ, List.getElem?_cons_zero]; rfl, hW⟩
              simp only [Act.put, List.setIfInBounds_toArray, List.set_cons_succ, List.set_cons_zero]
            apply seqS_end
            intro W hW
            obtain ⟨hn1, hn2⟩ := HN.out W hW
            have Hn1 := Lib.hid hn1
            clear hn1 hn2 hW HN
            go_wp2_with fail
            go_ret
            exact ⟨rfl, Hn1.out⟩
          · have Hp2 := Lib.hid (Hp1.out hoz)
            go_wp2_with fail
            refine drawnS mixed _ (Below (wr.heap.size + 1) (wr.alloc (.cells #[.int .i64 x.a, .int .i64 x.b, .bool x.n] 32))) rfl (by kernel_rfl) rfl (Below.drew (Below.refl _ _)) ?_
            iterate 3
              apply seqS_op
              · intro W hW
                obtain ⟨k1, k2, k3, k4, k5⟩ := HK.out W hW
                go_wp2_with fail
                exact ⟨rfl, rfl, fun d hd => by cases hd; simp only [List.getElem?_toArray, List.getElem?_cons_succ, List.getElem?_cons_zero]; rfl, hW⟩
              simp only [Act.put, List.setIfInBounds_toArray, List.set_cons_succ, List.set_cons_zero]
            apply seqS_op
            · intro W hW
              go_wp2_with fail
              refine (HW.out W).mono ?_
              rintro e w1 ⟨rfl, hb1⟩
              go_wp2_with fail
              exact ⟨rfl, rfl, fun d hd => by cases hd; simp only [List.getElem?_toArray, List.getElem?_cons_succ, List.getElem?_cons_zero]; rfl, hW.trans (hb1.mono (by have := hW.size; simp at this; omega))⟩
            simp only [Act.put, List.setIfInBounds_toArray, List.set_cons_succ, List.set_cons_zero]
            iterate 6
              apply seqS_op
              · intro W hW
                go_wp2_with fail
                exact ⟨rfl, rfl, fun d hd => by cases hd; simp only [List.getElem?_toArray, List.getElem?_cons_succ, List.getElem?_cons_zero]; rfl, hW⟩
              simp only [Act.put, List.setIfInBounds_toArray, List.set_cons_succ, List.set_cons_zero]
            apply seqS_op
            · intro W hW
              have k2 := (HK.out W hW).2.1
              go_wp2_with fail
              exact ⟨rfl, rfl, fun d hd => by cases hd; simp only [List.getElem?_toArray, List.getElem?_cons_succ, List.getElem?_cons_zero]; rfl, hW⟩
            simp only [Act.put, List.setIfInBounds_toArray, List.set_cons_succ, List.set_cons_zero]
            iterate 3
              apply seqS_op
              · intro W hW
                go_wp2_with fail
                exact ⟨rfl, rfl, fun d hd => by cases hd; simp only [List.getElem?_toArray, List.getElem?_cons_succ, List.getElem?_cons_zero]; rfl, hW⟩
              simp only [Act.put, List.setIfInBounds_toArray, List.set_cons_succ, List.set_cons_zero]
            apply seqS_op
            · intro W hW
              have y0 := (HY.out W hW).1
              have y1 := (HY.out W hW).2.1
              have y2 := (HY.out W hW).2.2
              go_wp2_with fail
              exact ⟨rfl, rfl, fun d hd => by cases hd; simp only [List.getElem?_toArray, List.getElem?_cons_succ, List.getElem?_cons_zero]; rfl, hW⟩
            simp only [Act.put, List.setIfInBounds_toArray, List.set_cons_succ, List.set_cons_zero]
            apply seqS_op
            · intro W hW
              have k3 := (HK.out W hW).2.2.1
              have k4 := (HK.out W hW).2.2.2.1
              have k5 := (HK.out W hW).2.2.2.2
              go_wp2_with fail
              exact ⟨rfl, rfl, fun d hd => by cases hd; simp only [List.getElem?_toArray, List.getElem?_cons_succ, List.getElem?_cons_zero]; rfl, hW⟩
            simp only [Act.put, List.setIfInBounds_toArray, List.set_cons_succ, List.set_cons_zero]
            apply seqS_op
            · intro W hW
              go_wp2_with fail
              refine (HO.out W).mono ?_
              rintro e w1 ⟨rfl, hb1⟩
              go_wp2_with fail
              exact ⟨rfl, rfl, fun d hd => by cases hd; simp only [List.getElem?_toArray, List.getElem?_cons_succ, List.getElem?_cons_zero]; rfl, hW.trans (hb1.mono (by have := hW.size; simp at this; omega))⟩
            simp only [Act.put, List.setIfInBounds_toArray, List.set_cons_succ, List.set_cons_zero]
            iterate 3
              apply seqS_op
              · intro W hW
                go_wp2_with fail
                exact ⟨rfl, rfl, fun d hd => by cases hd; simp only [List.getElem?_toArray, List.getElem?_cons_succ, List.getElem?_cons_zero]; rfl, hW⟩
              simp only [Act.put, List.setIfInBounds_toArray, List.set_cons_succ, List.set_cons_zero]
            apply seqS_end
            intro W hW
            obtain ⟨hn1, hn2⟩ := HN.out W hW
            have Hn1 := Lib.hid hn1
            have Hn2 := Lib.hid hn2
            clear hn1 hn2 hW HN
            go_wp2_with fail
            go_roundw
            case rel => exact ⟨k + 1, by omega, by go_num, Hp2, Hn1, Hn2⟩
            case measure => simp [intOf]; omega
    · have i1 : ¬ (k : Int) < (m : Int) := by omega
      obtain rfl : r = true := HT.out (fun j hj => Hp.out j (by rw [Hlen.out] at hj; omega))
      go_wp2_with fail
      go_ret
      exact ⟨rfl, Hb.out⟩
end Go.Proofs.Ytdbpbchhkdconaa
