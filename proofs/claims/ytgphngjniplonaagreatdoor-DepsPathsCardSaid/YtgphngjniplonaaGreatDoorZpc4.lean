/- My own texts DgB7, DgB8, as far as this claim needs them. -/
import Derived.Test.YtgphngjniplonaaGreatDoorZp28
import Derived.Test.YtgphngjniplonaaGreatDoorZpc3
set_option linter.unusedVariables false
set_option linter.unusedSimpArgs false
set_option maxRecDepth 1000000
set_option maxHeartbeats 16000000
namespace Go.Proofs.YtgphngjniplonaaGreatDoor
open Go.RowKit
theorem refRightG_any (n : Int) (A : Option Addr) (m c : Nat) (l : List GEdge) (w : World) (h : SliceIs Enc.edge w w.heap.size A m c l) : Calls Tryz.prog 18 #[.agg #[.int .i64 n, .slice A m c]] w (RetBool (rightG n l) w) := by
  have mixed : Tryz.prog.follows .mixedOrders = true := by kernel_rfl
  have hm := h.bound
  have Hlen := Lib.hid h.1
  obtain ⟨r, Hr⟩ : ∃ r, Hid (rightG n l = r) := ⟨_, rfl⟩
  rw [Hr.out]
  have HF : Hid (∀ k, k < l.length → okE n l k = false → r = false) := fun k hk h => by rw [← Hr.out]; exact rightG_not hk h
  have HS := Lib.hid h
  clear h
  go_enter Tryz.func18, Tryz.ntmps18
  go_wp2_with fail
  have hb0 : Below w.heap.size w (w.alloc (.cells #[.int .i64 n, .slice A m c] 35)) := belowA (Below.refl _ _) _
  have hg0 : (w.alloc (.cells #[.int .i64 n, .slice A m c] 35)).heap[w.heap.size]? = some (.cells #[.int .i64 n, .slice A m c] 35 (0, 0)) := heapNew rfl
  generalize w.alloc (.cells #[.int .i64 n, .slice A m c] 35) = wa at hb0 hg0 ⊢
  have Hb0 := Lib.hid hb0
  have Hg0 := Lib.hid hg0
  clear hb0 hg0
  go_loopw [3] (fun i wr => ∃ k : Nat, k ≤ m ∧ i = .int .i64 k ∧ Hid (∀ j, j < k → okE n l j = true) ∧ Hid (Below w.heap.size w wr) ∧ Hid (wr.heap[w.heap.size]? = some (.cells #[.int .i64 n, .slice A m c] 35 (0, 0)))) (fun i _ => m - (intOf i).toNat)
  case atStart => exact ⟨0, by omega, rfl, (fun j hj => by omega), Hb0, Hg0⟩
  case round =>
    obtain ⟨k, hk, rfl, Hp, Hb, Hg⟩ := hrel
    have i0 : (0 : Int) ≤ (k : Int) := by omega
    have c0 : wr.cell? ⟨w.heap.size, 0, none⟩ = some (.int .i64 n) := (cell_of_row _ _ 0 _ _ _ Hg.out).trans rfl
    have c1 : wr.cell? ⟨w.heap.size, 1, none⟩ = some (.slice A m c) := (cell_of_row _ _ 1 _ _ _ Hg.out).trans rfl
    by_cases hlt : k < m
    · have i1 : (k : Int) < (m : Int) := by omega
      obtain ⟨b, o, x, rfl, hb, hx, x0, x1, x2, -⟩ := (HS.out.mono Hb.out.size Hb.out.block).edge_at hlt
      have HW := Lib.hid (fun W => refWithin_any x n W)
      have gl := (Array.getElem?_eq_some_iff.1 Hg.out).1
      have HK : Hid (∀ V, Below wr.heap.size wr V → V.cell? ⟨w.heap.size, 0, none⟩ = some (.int .i64 n) ∧ V.cell? ⟨w.heap.size, 1, none⟩ = some (.slice (some ⟨b, o, none⟩) m c) ∧
          V.cell? ⟨b, o + k * 3, none⟩ = some (.int .i64 x.a) ∧ V.cell? ⟨b, o + k * 3 + 1, none⟩ = some (.int .i64 x.b) ∧ V.cell? ⟨b, o + k * 3 + 2, none⟩ = some (.bool x.n) ∧ Below w.heap.size w V ∧ V.heap[w.heap.size]? = some (.cells #[.int .i64 n, .slice (some ⟨b, o, none⟩) m c] 35 (0, 0))) := by
        intro V hV
        exact ⟨below_cell hV c0, below_cell hV c1, below_cell hV x0, below_cell hV x1, below_cell hV x2, Hb.out.trans (hV.mono Hb.out.size), (hV.block _ gl).trans Hg.out⟩
      clear x0 x1 x2 c0
      cases hw : withinE x n with
      | false =>
        rw [hw] at HW
        obtain rfl : r = false := HF.out k (by rw [Hlen.out]; exact hlt) (by unfold okE; rw [hx.out]; simp [hw])
        clear hw gl hx
        go_wp2_with fail
        refine drawnS mixed _ (Below wr.heap.size wr) rfl (by kernel_rfl) rfl (Below.drew (Below.refl _ _)) ?_
        have hyu : undef = Value.tuple #[] := rfl
        iterate 7
          apply seqS_op
          · intro W hW
            have k0 := (HK.out W hW).1
            have k1 := (HK.out W hW).2.1
            have k2 := (HK.out W hW).2.2.1
            have k3 := (HK.out W hW).2.2.2.1
            have k4 := (HK.out W hW).2.2.2.2.1
            go_wp2_with fail
            exact ⟨rfl, rfl, fun d hd => by cases hd; simp only [List.getElem?_toArray, List.getElem?_cons_succ, List.getElem?_cons_zero]; rfl, hW⟩
          simp only [Act.put, List.setIfInBounds_toArray, List.set_cons_succ, List.set_cons_zero]
        apply seqS_op
        · intro W hW
          go_wp2_with fail
          refine (HW.out W).mono ?_
          rintro e w1 ⟨rfl, hb1⟩
          go_wp2_with fail
          exact ⟨rfl, rfl, fun d hd => by cases hd; simp only [List.getElem?_toArray, List.getElem?_cons_succ, List.getElem?_cons_zero]; rfl, hW.trans (hb1.mono hW.size)⟩
        simp only [Act.put, List.setIfInBounds_toArray, List.set_cons_succ, List.set_cons_zero]
        iterate 20
          apply seqS_op
          · intro W hW
            go_wp2_with fail
            exact ⟨rfl, rfl, fun d hd => by cases hd; simp only [List.getElem?_toArray, List.getElem?_cons_succ, List.getElem?_cons_zero]; rfl, hW⟩
          simp only [Act.put, List.setIfInBounds_toArray, List.set_cons_succ, List.set_cons_zero]
        clear hyu
        apply seqS_end
        intro W hW
        have HE := Lib.hid (HK.out W hW).2.2.2.2.2.1
        clear hW
        go_wp2_with fail
        go_ret
        exact ⟨rfl, HE.out⟩
      | true =>
        rw [hw] at HW
        have Hok : Hid ((k = 0 ∨ ∃ (j : Nat) (y : GEdge), k = j + 1 ∧ l[j]? = some y ∧ lessE y x = true) → okE n l k = true) := by
          intro hh
          unfold okE; rw [hx.out]
          rcases hh with rfl | ⟨j, y, rfl, hy, hl⟩
          · simp [hw]
          · simp [hw, hy, hl]
        have Hup : Hid (okE n l k = true → ∀ j, j < k + 1 → okE n l j = true) := fun h j hj => by
          rcases Nat.lt_or_ge j k with hh | hh
          · exact Hp.out j hh
          · obtain rfl : j = k := by omega
            exact h
        by_cases hk0 : k = 0
        · have Hp1 := Lib.hid (Hup.out (Hok.out (.inl hk0)))
          have k6 : ¬ ((0 : Int) < (k : Int)) := by omega
          clear hw gl hx Hp hk0 Hok Hup
          go_wp2_with fail
          refine drawnS mixed _ (Below wr.heap.size wr) rfl (by kernel_rfl) rfl (Below.drew (Below.refl _ _)) ?_
          have hyu : undef = Value.tuple #[] := rfl
          iterate 7
            apply seqS_op
            · intro W hW
              have k0 := (HK.out W hW).1
              have k1 := (HK.out W hW).2.1
              have k2 := (HK.out W hW).2.2.1
              have k3 := (HK.out W hW).2.2.2.1
              have k4 := (HK.out W hW).2.2.2.2.1
              go_wp2_with fail
              exact ⟨rfl, rfl, fun d hd => by cases hd; simp only [List.getElem?_toArray, List.getElem?_cons_succ, List.getElem?_cons_zero]; rfl, hW⟩
            simp only [Act.put, List.setIfInBounds_toArray, List.set_cons_succ, List.set_cons_zero]
          apply seqS_op
          · intro W hW
            go_wp2_with fail
            refine (HW.out W).mono ?_
            rintro e w1 ⟨rfl, hb1⟩
            go_wp2_with fail
            exact ⟨rfl, rfl, fun d hd => by cases hd; simp only [List.getElem?_toArray, List.getElem?_cons_succ, List.getElem?_cons_zero]; rfl, hW.trans (hb1.mono hW.size)⟩
          simp only [Act.put, List.setIfInBounds_toArray, List.set_cons_succ, List.set_cons_zero]
          iterate 20
            apply seqS_op
            · intro W hW
              go_wp2_with fail
              exact ⟨rfl, rfl, fun d hd => by cases hd; simp only [List.getElem?_toArray, List.getElem?_cons_succ, List.getElem?_cons_zero]; rfl, hW⟩
            simp only [Act.put, List.setIfInBounds_toArray, List.set_cons_succ, List.set_cons_zero]
          clear hyu
          apply seqS_end
          intro W hW
          have HE := Lib.hid (HK.out W hW).2.2.2.2.2.1
          have HE2 := Lib.hid (HK.out W hW).2.2.2.2.2.2
          clear hW
          go_wp2_with fail
          go_roundw
          case rel => exact ⟨k + 1, by omega, by go_num, Hp1, HE, HE2⟩
          case measure => simp [intOf]; omega
        · have k6 : (0 : Int) < (k : Int) := by omega
          obtain ⟨j, hj⟩ : ∃ j : Nat, (k : Int) - 1 = (j : Int) := ⟨k - 1, by omega⟩
          have j0 : (0 : Int) ≤ (j : Int) := by omega
          have j1 : (j : Int) < (m : Int) := by omega
          obtain ⟨b', o', y, hA, hbw, hy, y0, y1, y2, -⟩ := HS.out.edge_at (i := j) (by omega)
          obtain ⟨rfl, rfl⟩ : b = b' ∧ o = o' := by injection hA with hA; injection hA with h1 h2; exact ⟨h1, h2⟩
          have hkj : k = j + 1 := by omega
          have HO := Lib.hid (fun W => refLess_any y x W)
          have HY : Hid (∀ V, Below wr.heap.size wr V → V.cell? ⟨b, o + j * 3, none⟩ = some (.int .i64 y.a) ∧ V.cell? ⟨b, o + j * 3 + 1, none⟩ = some (.int .i64 y.b) ∧ V.cell? ⟨b, o + j * 3 + 2, none⟩ = some (.bool y.n)) := by
            intro V hV
            have hbV : Below w.heap.size w V := Hb.out.trans (hV.mono Hb.out.size)
            exact ⟨below_cell hbV y0, below_cell hbV y1, below_cell hbV y2⟩
          cases hle : lessE y x with
          | false =>
            rw [hle] at HO
            obtain rfl : r = false := HF.out k (by rw [Hlen.out]; exact hlt) (by
              unfold okE; rw [hx.out, hkj]; simp only [hy.out]; simp [hle])
            clear hw gl hx Hp hk0 Hok Hup hy hA hkj hbw y0 y1 y2 hle
            go_wp2_with fail
            refine drawnS mixed _ (Below wr.heap.size wr) rfl (by kernel_rfl) rfl (Below.drew (Below.refl _ _)) ?_
            have hyu : undef = Value.tuple #[] := rfl
            iterate 7
              apply seqS_op
              · intro W hW
                have k0 := (HK.out W hW).1
                have k1 := (HK.out W hW).2.1
                have k2 := (HK.out W hW).2.2.1
                have k3 := (HK.out W hW).2.2.2.1
                have k4 := (HK.out W hW).2.2.2.2.1
                go_wp2_with fail
                exact ⟨rfl, rfl, fun d hd => by cases hd; simp only [List.getElem?_toArray, List.getElem?_cons_succ, List.getElem?_cons_zero]; rfl, hW⟩
              simp only [Act.put, List.setIfInBounds_toArray, List.set_cons_succ, List.set_cons_zero]
            apply seqS_op
            · intro W hW
              go_wp2_with fail
              refine (HW.out W).mono ?_
              rintro e w1 ⟨rfl, hb1⟩
              go_wp2_with fail
              exact ⟨rfl, rfl, fun d hd => by cases hd; simp only [List.getElem?_toArray, List.getElem?_cons_succ, List.getElem?_cons_zero]; rfl, hW.trans (hb1.mono hW.size)⟩
            simp only [Act.put, List.setIfInBounds_toArray, List.set_cons_succ, List.set_cons_zero]
            iterate 16
              apply seqS_op
              · intro W hW
                have k0 := (HK.out W hW).1
                have k1 := (HK.out W hW).2.1
                have k2 := (HK.out W hW).2.2.1
                have k3 := (HK.out W hW).2.2.2.1
                have k4 := (HK.out W hW).2.2.2.2.1
                have y0 := (HY.out W hW).1
                have y1 := (HY.out W hW).2.1
                have y2 := (HY.out W hW).2.2
                go_wp2_with fail
                exact ⟨rfl, rfl, fun d hd => by cases hd; simp only [List.getElem?_toArray, List.getElem?_cons_succ, List.getElem?_cons_zero]; rfl, hW⟩
              simp only [Act.put, List.setIfInBounds_toArray, List.set_cons_succ, List.set_cons_zero]
            apply seqS_op
            · intro W hW
              go_wp2_with fail
              refine (HO.out W).mono ?_
              rintro e w1 ⟨rfl, hb1⟩
              go_wp2_with fail
              exact ⟨rfl, rfl, fun d hd => by cases hd; simp only [List.getElem?_toArray, List.getElem?_cons_succ, List.getElem?_cons_zero]; rfl, hW.trans (hb1.mono hW.size)⟩
            simp only [Act.put, List.setIfInBounds_toArray, List.set_cons_succ, List.set_cons_zero]
            iterate 3
              apply seqS_op
              · intro W hW
                go_wp2_with fail
                exact ⟨rfl, rfl, fun d hd => by cases hd; simp only [List.getElem?_toArray, List.getElem?_cons_succ, List.getElem?_cons_zero]; rfl, hW⟩
              simp only [Act.put, List.setIfInBounds_toArray, List.set_cons_succ, List.set_cons_zero]
            clear hyu
            apply seqS_end
            intro W hW
            have HE := Lib.hid (HK.out W hW).2.2.2.2.2.1
            clear hW
            go_wp2_with fail
            go_ret
            exact ⟨rfl, HE.out⟩
          | true =>
            rw [hle] at HO
            have Hp1 := Lib.hid (Hup.out (Hok.out (.inr ⟨j, y, hkj, hy.out, hle⟩)))
            clear hw gl hx Hp hk0 Hok Hup hy hA hkj hbw y0 y1 y2 hle
            go_wp2_with fail
            refine drawnS mixed _ (Below wr.heap.size wr) rfl (by kernel_rfl) rfl (Below.drew (Below.refl _ _)) ?_
            have hyu : undef = Value.tuple #[] := rfl
            iterate 7
              apply seqS_op
              · intro W hW
                have k0 := (HK.out W hW).1
                have k1 := (HK.out W hW).2.1
                have k2 := (HK.out W hW).2.2.1
                have k3 := (HK.out W hW).2.2.2.1
                have k4 := (HK.out W hW).2.2.2.2.1
                go_wp2_with fail
                exact ⟨rfl, rfl, fun d hd => by cases hd; simp only [List.getElem?_toArray, List.getElem?_cons_succ, List.getElem?_cons_zero]; rfl, hW⟩
              simp only [Act.put, List.setIfInBounds_toArray, List.set_cons_succ, List.set_cons_zero]
            apply seqS_op
            · intro W hW
              go_wp2_with fail
              refine (HW.out W).mono ?_
              rintro e w1 ⟨rfl, hb1⟩
              go_wp2_with fail
              exact ⟨rfl, rfl, fun d hd => by cases hd; simp only [List.getElem?_toArray, List.getElem?_cons_succ, List.getElem?_cons_zero]; rfl, hW.trans (hb1.mono hW.size)⟩
            simp only [Act.put, List.setIfInBounds_toArray, List.set_cons_succ, List.set_cons_zero]
            iterate 16
              apply seqS_op
              · intro W hW
                have k0 := (HK.out W hW).1
                have k1 := (HK.out W hW).2.1
                have k2 := (HK.out W hW).2.2.1
                have k3 := (HK.out W hW).2.2.2.1
                have k4 := (HK.out W hW).2.2.2.2.1
                have y0 := (HY.out W hW).1
                have y1 := (HY.out W hW).2.1
                have y2 := (HY.out W hW).2.2
                go_wp2_with fail
                exact ⟨rfl, rfl, fun d hd => by cases hd; simp only [List.getElem?_toArray, List.getElem?_cons_succ, List.getElem?_cons_zero]; rfl, hW⟩
              simp only [Act.put, List.setIfInBounds_toArray, List.set_cons_succ, List.set_cons_zero]
            apply seqS_op
            · intro W hW
              go_wp2_with fail
              refine (HO.out W).mono ?_
              rintro e w1 ⟨rfl, hb1⟩
              go_wp2_with fail
              exact ⟨rfl, rfl, fun d hd => by cases hd; simp only [List.getElem?_toArray, List.getElem?_cons_succ, List.getElem?_cons_zero]; rfl, hW.trans (hb1.mono hW.size)⟩
            simp only [Act.put, List.setIfInBounds_toArray, List.set_cons_succ, List.set_cons_zero]
            iterate 3
              apply seqS_op
              · intro W hW
                go_wp2_with fail
                exact ⟨rfl, rfl, fun d hd => by cases hd; simp only [List.getElem?_toArray, List.getElem?_cons_succ, List.getElem?_cons_zero]; rfl, hW⟩
              simp only [Act.put, List.setIfInBounds_toArray, List.set_cons_succ, List.set_cons_zero]
            clear hyu
            apply seqS_end
            intro W hW
            have HE := Lib.hid (HK.out W hW).2.2.2.2.2.1
            have HE2 := Lib.hid (HK.out W hW).2.2.2.2.2.2
            clear hW
            go_wp2_with fail
            go_roundw
            case rel => exact ⟨k + 1, by omega, by go_num, Hp1, HE, HE2⟩
            case measure => simp [intOf]; omega
    · have i1 : ¬ (k : Int) < (m : Int) := by omega
      have hyu : undef = Value.tuple #[] := rfl
      have HAll : Hid (∀ j, j < l.length → okE n l j = true) := fun j hj => Hp.out j (by rw [Hlen.out] at hj; omega)
      by_cases h0 : (0 : Int) ≤ n
      · by_cases h1 : n ≤ 32
        · obtain rfl : r = true := by rw [← Hr.out]; exact rightG_all h0 h1 HAll.out
          clear Hp HAll
          go_wp2_with fail
          go_ret
          exact ⟨rfl, Hb.out⟩
        · obtain rfl : r = false := by rw [← Hr.out]; simp [rightG]; omega
          clear Hp HAll
          go_wp2_with fail
          go_ret
          exact ⟨rfl, Hb.out⟩
      · obtain rfl : r = false := by rw [← Hr.out]; simp [rightG]; omega
        clear Hp HAll
        go_wp2_with fail
        go_ret
        exact ⟨rfl, Hb.out⟩
end Go.Proofs.YtgphngjniplonaaGreatDoor
namespace Go.Proofs.YtgphngjniplonaaGreatDoor
open Go.RowKit
end Go.Proofs.YtgphngjniplonaaGreatDoor
namespace Go.Proofs.YtgphngjniplonaaGreatDoor
end Go.Proofs.YtgphngjniplonaaGreatDoor
namespace Go.Proofs.YtgphngjniplonaaGreatDoor
section
variable {has : Nat → Nat → Bool} {n : Nat}
structure BInv (has : Nat → Nat → Bool) (n : Nat) (out : List Nat) (k : Nat) (ds : List Nat) : Prop where
  nod : out.Nodup
  rea : ∀ b ∈ out, ∃ l, l ≠ [] ∧ IsWay has n l ∧ wayEnd n l = b
  clo : ∀ x ∈ (n :: out).take k, ∀ y, has x y = true → y ∈ out
  cur : ∀ y ∈ ds, y ∈ out
theorem BInv.start : BInv has n [] 0 [] where
  nod := List.nodup_nil
  rea b h := by cases h
  clo x h := by simp at h
  cur y h := by cases h
theorem BInv.skip {out ds : List Nat} {k y : Nat} (h : BInv has n out k ds) (hy : y ∈ out) : BInv has n out k (ds ++ [y]) where
  nod := h.nod
  rea := h.rea
  clo := h.clo
  cur z hz := by
    rcases List.mem_append.1 hz with h1 | h1
    · exact h.cur z h1
    · rw [List.mem_singleton.1 h1]; exact hy
theorem BInv.way {out ds : List Nat} {k x y : Nat} (h : BInv has n out k ds) (hx : (n :: out)[k]? = some x) (hxy : has x y = true) : ∃ l, l ≠ [] ∧ IsWay has n l ∧ wayEnd n l = y := by
  rcases List.mem_cons.1 (List.mem_of_getElem? hx) with rfl | h1
  · exact ⟨[y], by simp, ⟨hxy, trivial⟩, rfl⟩
  · obtain ⟨l, -, h3, h4⟩ := h.rea x h1
    exact ⟨l ++ [y], by simp, (isWay_append _ _ _).2 ⟨h3, by rw [h4]; exact ⟨hxy, trivial⟩⟩, by rw [wayEnd_append]; rfl⟩
theorem BInv.add {out ds : List Nat} {k x y : Nat} (h : BInv has n out k ds) (hx : (n :: out)[k]? = some x) (hxy : has x y = true) (hy : y ∉ out) : BInv has n (out ++ [y]) k (ds ++ [y]) where
  nod := by
    rw [List.nodup_append]
    exact ⟨h.nod, by simp, fun a ha b hb e => by
      rw [List.mem_singleton.1 hb] at e
      rw [e] at ha
      exact hy ha⟩
  rea b hb := by
    rcases List.mem_append.1 hb with h1 | h1
    · exact h.rea b h1
    · rw [List.mem_singleton.1 h1]; exact h.way hx hxy
  clo z hz w hw := by
    have hk : k < (n :: out).length := (List.getElem?_eq_some_iff.1 hx).1
    rw [show n :: (out ++ [y]) = (n :: out) ++ [y] from rfl, List.take_append_of_le_length (by omega)] at hz
    exact List.mem_append_left _ (h.clo z hz w hw)
  cur z hz := by
    rcases List.mem_append.1 hz with h1 | h1
    · exact List.mem_append_left _ (h.cur z h1)
    · exact List.mem_append_right _ h1
theorem BInv.next {out ds : List Nat} {k x : Nat} (h : BInv has n out k ds) (hx : (n :: out)[k]? = some x) (hd : ∀ y, has x y = true → y ∈ ds) : BInv has n out (k + 1) [] where
  nod := h.nod
  rea := h.rea
  clo z hz w hw := by
    rw [List.take_add_one, hx] at hz
    rcases List.mem_append.1 hz with h1 | h1
    · exact h.clo z h1 w hw
    · simp at h1
      subst h1
      exact h.cur w (hd w hw)
  cur y hy := by cases hy
theorem BInv.done {out : List Nat} {k : Nat} (h : BInv has n out k []) (hk : out.length < k) (b : Nat) : b ∈ out ↔ ∃ l, l ≠ [] ∧ IsWay has n l ∧ wayEnd n l = b := by
  have hall : ∀ x ∈ n :: out, ∀ y, has x y = true → y ∈ out := fun x hx y hxy => h.clo x (by rw [List.take_of_length_le (by simp; omega)]; exact hx) y hxy
  constructor
  · exact h.rea b
  · rintro ⟨l, hne, hw, rfl⟩
    have hgo : ∀ (l : List Nat) (a : Nat), a ∈ n :: out → l ≠ [] → IsWay has a l → wayEnd a l ∈ out := by
      intro l
      induction l with
      | nil => intro a _ hne _; exact absurd rfl hne
      | cons x l ih =>
        intro a ha _ hw
        have hx := hall a ha x hw.1
        cases l with
        | nil => exact hx
        | cons z t => exact ih x (List.mem_cons_of_mem _ hx) (by simp) hw.2
    exact hgo l n (List.mem_cons_self ..) hne hw
theorem BInv.reached {N : Nat} (hN : ∀ x y, has x y = true → y < N) (hn : n < N) {out q : List Nat} {k : Nat} (h : BInv has n out k []) (hk : out.length < k) (hq : q.Pairwise (· < ·)) (hm : ∀ x, x ∈ q ↔ x ∈ out) : q = (List.range N).filter (fun b => decide (0 < farN N has n b)) := by
  have ext : ∀ {l m : List Nat}, l.Pairwise (· < ·) → m.Pairwise (· < ·) → (∀ x, x ∈ l ↔ x ∈ m) → l = m := by
    intro l
    induction l with
    | nil =>
      intro m _ _ h
      cases m with
      | nil => rfl
      | cons y m => exact absurd ((h y).2 (List.mem_cons_self ..)) (by simp)
    | cons x l ih =>
      intro m hl hm h
      cases m with
      | nil => exact absurd ((h x).1 (List.mem_cons_self ..)) (by simp)
      | cons y m =>
        rw [List.pairwise_cons] at hl hm
        have hxy : x = y := by
          rcases List.mem_cons.1 ((h x).1 (List.mem_cons_self ..)) with h1 | h1
          · exact h1
          · rcases List.mem_cons.1 ((h y).2 (List.mem_cons_self ..)) with h2 | h2
            · exact h2.symm
            · have := hl.1 y h2; have := hm.1 x h1; omega
        subst hxy
        rw [ih hl.2 hm.2 (fun z => by
          constructor
          · intro hz
            rcases List.mem_cons.1 ((h z).1 (List.mem_cons_of_mem _ hz)) with h1 | h1
            · have := hl.1 z hz; omega
            · exact h1
          · intro hz
            rcases List.mem_cons.1 ((h z).2 (List.mem_cons_of_mem _ hz)) with h1 | h1
            · have := hm.1 z hz; omega
            · exact h1)]
  refine ext hq (List.Pairwise.sublist List.filter_sublist List.pairwise_lt_range) (fun x => ?_)
  rw [hm, h.done hk, List.mem_filter, List.mem_range, decide_eq_true_eq, far_pos hN hn]
  constructor
  · rintro ⟨l, h1, h2, h3⟩
    refine ⟨?_, l, h1, h2, h3⟩
    have hl : wayEnd n l ∈ l := by
      clear h2 h3
      induction l generalizing n with
      | nil => exact absurd rfl h1
      | cons y t ih =>
        cases t with
        | nil => exact List.mem_cons_self ..
        | cons z t => exact List.mem_cons_of_mem _ (by
            have hgen : ∀ (t : List Nat) (z y : Nat), wayEnd y (z :: t) ∈ z :: t := by
              intro t
              induction t with
              | nil => intro z y; exact List.mem_cons_self ..
              | cons u t ih2 => intro z y; exact List.mem_cons_of_mem _ (ih2 u z)
            exact hgen t z y)
    rw [← h3]
    exact way_mem hN h2 _ hl
  · exact fun h => h.2
end
end Go.Proofs.YtgphngjniplonaaGreatDoor

namespace Go.Proofs.YtgphngjniplonaaGreatDoor
def lexN : List Nat → List Nat → Prop
  | x :: l, y :: m => x < y ∨ (x = y ∧ lexN l m)
  | _, _ => False
theorem lexN_irr : ∀ l, ¬ lexN l l
  | [], h => h
  | x :: l, h => by
    rcases h with h | ⟨_, h⟩
    · omega
    · exact lexN_irr l h
theorem lexN_tr : ∀ {a b c : List Nat}, lexN a b → lexN b c → lexN a c
  | [], _, _, h, _ => h.elim
  | _ :: _, [], _, h, _ => h.elim
  | _ :: _, _ :: _, [], _, k => k.elim
  | x :: a, y :: b, z :: c, h, k => by
    rcases h with h | ⟨h, h'⟩ <;> rcases k with k | ⟨k, k'⟩
    · exact .inl (by omega)
    · exact .inl (by omega)
    · exact .inl (by omega)
    · exact .inr ⟨by omega, lexN_tr h' k'⟩
theorem lexN_app : ∀ {a b : List Nat} (p q : List Nat), lexN a b → lexN (a ++ p) (b ++ q)
  | [], _, _, _, h => h.elim
  | _ :: _, [], _, _, h => h.elim
  | x :: a, y :: b, p, q, h => by
    rcases h with h | ⟨h, h'⟩
    · exact .inl h
    · exact .inr ⟨h, lexN_app p q h'⟩
theorem lexN_same : ∀ (a : List Nat) {p q : List Nat}, lexN p q → lexN (a ++ p) (a ++ q)
  | [], _, _, h => h
  | _ :: a, _, _, h => .inr ⟨rfl, lexN_same a h⟩
def bef (l m : List Nat) : Prop := l.length < m.length ∨ (l.length = m.length ∧ lexN l m)
def leW (l m : List Nat) : Prop := l = m ∨ bef l m
theorem bef_tr {a b c : List Nat} (h : bef a b) (k : bef b c) : bef a c := by
  rcases h with h | ⟨h, h'⟩ <;> rcases k with k | ⟨k, k'⟩
  · exact .inl (by omega)
  · exact .inl (by omega)
  · exact .inl (by omega)
  · exact .inr ⟨by omega, lexN_tr h' k'⟩
theorem bef_irr (a : List Nat) : ¬ bef a a := by
  rintro (h | ⟨_, h⟩)
  · omega
  · exact lexN_irr a h
theorem leW_tr {a b c : List Nat} (h : leW a b) (k : leW b c) : leW a c := by
  rcases h with rfl | h
  · exact k
  · rcases k with rfl | k
    · exact .inr h
    · exact .inr (bef_tr h k)
theorem leW_one {a b : List Nat} (h : leW a b) (k : leW b a) : a = b := by
  rcases h with h | h
  · exact h
  · rcases k with k | k
    · exact k.symm
    · exact absurd (bef_tr h k) (bef_irr a)
theorem bef_snoc {a b : List Nat} (x y : Nat) (h : bef a b) : bef (a ++ [x]) (b ++ [y]) := by
  rcases h with h | ⟨h, h'⟩
  · exact .inl (by simp; exact h)
  · exact .inr ⟨by simp [h], lexN_app _ _ h'⟩
theorem bef_last (a : List Nat) {x y : Nat} (h : x < y) : bef (a ++ [x]) (a ++ [y]) := .inr ⟨by simp, lexN_same a (.inl h)⟩
theorem leW_snoc {a b : List Nat} (y : Nat) (h : leW a b) : leW (a ++ [y]) (b ++ [y]) := by
  rcases h with rfl | h
  · exact .inl rfl
  · exact .inr (bef_snoc y y h)
section
variable {has : Nat → Nat → Bool} {n : Nat}
structure PInv (has : Nat → Nat → Bool) (n : Nat) (ps : List (List Nat)) (k : Nat) (ds : List Nat) : Prop where
  way : ∀ p ∈ ps, p ≠ [] ∧ IsWay has n p
  inc : ([] :: ps).Pairwise bef
  frm : ∀ p ∈ ps, ∃ j q y, ([] :: ps)[j]? = some q ∧ p = q ++ [y] ∧ (j < k ∨ (j = k ∧ y ∈ ds))
  clo : ∀ j < k, ∀ q, ([] :: ps)[j]? = some q → ∀ y, has (wayEnd n q) y = true → ∃ p ∈ ps, wayEnd n p = y ∧ leW p (q ++ [y])
  cur : ∀ q, ([] :: ps)[k]? = some q → ∀ y ∈ ds, ∃ p ∈ ps, wayEnd n p = y ∧ leW p (q ++ [y])
theorem PInv.start : PInv has n [] 0 [] where
  way p h := by cases h
  inc := by simp
  frm p h := by cases h
  clo j h := by omega
  cur q _ y h := by cases h
theorem PInv.lt {ps : List (List Nat)} {k : Nat} {ds : List Nat} (h : PInv has n ps k ds) {i j : Nat} {p q : List Nat} (hij : i < j) (hp : ([] :: ps)[i]? = some p) (hq : ([] :: ps)[j]? = some q) : bef p q := by
  obtain ⟨h1, rfl⟩ := List.getElem?_eq_some_iff.1 hp
  obtain ⟨h2, rfl⟩ := List.getElem?_eq_some_iff.1 hq
  exact List.pairwise_iff_getElem.1 h.inc i j h1 h2 hij
theorem PInv.skip {ps : List (List Nat)} {k y : Nat} {ds : List Nat} {q : List Nat} (h : PInv has n ps k ds) (hq : ([] :: ps)[k]? = some q) {p : List Nat} (hp : p ∈ ps) (hy : wayEnd n p = y) : PInv has n ps k (ds ++ [y]) where
  way := h.way
  inc := h.inc
  frm p' hp' := by
    obtain ⟨j, q', y', h1, h2, h3⟩ := h.frm p' hp'
    refine ⟨j, q', y', h1, h2, ?_⟩
    rcases h3 with h3 | ⟨h3, h4⟩
    · exact .inl h3
    · exact .inr ⟨h3, List.mem_append_left _ h4⟩
  clo := h.clo
  cur q' hq' z hz := by
    rw [hq] at hq'
    obtain rfl : q = q' := by injection hq'
    rcases List.mem_append.1 hz with h1 | h1
    · exact h.cur q hq z h1
    · obtain rfl := List.mem_singleton.1 h1
      refine ⟨p, hp, hy, ?_⟩
      obtain ⟨j, q', y', e1, rfl, h3⟩ := h.frm p hp
      have hyy : y' = z := by rw [wayEnd_append] at hy; exact hy
      subst hyy
      rcases h3 with h3 | ⟨h3, -⟩
      · exact .inr (bef_snoc _ _ (h.lt h3 e1 hq))
      · subst h3
        rw [hq] at e1
        obtain rfl : q = q' := by injection e1
        exact .inl rfl
theorem PInv.add {ps : List (List Nat)} {k y : Nat} {ds : List Nat} {q : List Nat} (h : PInv has n ps k ds) (hq : ([] :: ps)[k]? = some q) (hqw : IsWay has n q) (hxy : has (wayEnd n q) y = true) (hup : ∀ z ∈ ds, z < y) : PInv has n (ps ++ [q ++ [y]]) k (ds ++ [y]) := by
  have hget : ∀ {j : Nat} {p : List Nat}, ([] :: ps)[j]? = some p → ([] :: (ps ++ [q ++ [y]]))[j]? = some p := fun {j p} hj => by
    rw [show [] :: (ps ++ [q ++ [y]]) = ([] :: ps) ++ [q ++ [y]] from rfl, List.getElem?_append_left (List.getElem?_eq_some_iff.1 hj).1]
    exact hj
  have hold : ∀ {j : Nat} {p : List Nat}, j ≤ k → ([] :: (ps ++ [q ++ [y]]))[j]? = some p → ([] :: ps)[j]? = some p := fun {j p} hjk hj => by
    rw [show [] :: (ps ++ [q ++ [y]]) = ([] :: ps) ++ [q ++ [y]] from rfl, List.getElem?_append_left (by have := (List.getElem?_eq_some_iff.1 hq).1; omega)] at hj
    exact hj
  refine ⟨?_, ?_, ?_, ?_, ?_⟩
  · intro p hp
    rcases List.mem_append.1 hp with h1 | h1
    · exact h.way p h1
    · rw [List.mem_singleton.1 h1]
      exact ⟨by simp, (isWay_append _ _ _).2 ⟨hqw, hxy, trivial⟩⟩
  · rw [show [] :: (ps ++ [q ++ [y]]) = ([] :: ps) ++ [q ++ [y]] from rfl, List.pairwise_append]
    refine ⟨h.inc, by simp, fun p hp p' hp' => ?_⟩
    rw [List.mem_singleton.1 hp']
    rcases List.mem_cons.1 hp with rfl | hp
    · exact .inl (by simp)
    · obtain ⟨j, q', y', h1, rfl, h3⟩ := h.frm p hp
      rcases h3 with h3 | ⟨h3, h4⟩
      · exact bef_snoc _ _ (h.lt h3 h1 hq)
      · subst h3
        rw [hq] at h1
        obtain rfl : q = q' := by injection h1
        exact bef_last q (hup y' h4)
  · intro p hp
    rcases List.mem_append.1 hp with h1 | h1
    · obtain ⟨j, q', y', h1, h2, h3⟩ := h.frm p h1
      refine ⟨j, q', y', hget h1, h2, ?_⟩
      rcases h3 with h3 | ⟨h3, h4⟩
      · exact .inl h3
      · exact .inr ⟨h3, List.mem_append_left _ h4⟩
    · rw [List.mem_singleton.1 h1]
      exact ⟨k, q, y, hget hq, rfl, .inr ⟨rfl, by simp⟩⟩
  · intro j hj q' hq' z hz
    obtain ⟨p, h1, h2, h3⟩ := h.clo j hj q' (hold (by omega) hq') z hz
    exact ⟨p, List.mem_append_left _ h1, h2, h3⟩
  · intro q' hq' z hz
    have hq'' := hold (Nat.le_refl _) hq'
    rw [hq] at hq''
    obtain rfl : q = q' := by injection hq''
    rcases List.mem_append.1 hz with h1 | h1
    · obtain ⟨p, h1, h2, h3⟩ := h.cur q hq z h1
      exact ⟨p, List.mem_append_left _ h1, h2, h3⟩
    · obtain rfl := List.mem_singleton.1 h1
      exact ⟨q ++ [z], List.mem_append_right _ (by simp), by rw [wayEnd_append]; rfl, .inl rfl⟩
theorem PInv.next {ps : List (List Nat)} {k : Nat} {ds : List Nat} {q : List Nat} (h : PInv has n ps k ds) (hq : ([] :: ps)[k]? = some q) (hd : ∀ y, has (wayEnd n q) y = true → y ∈ ds) : PInv has n ps (k + 1) [] where
  way := h.way
  inc := h.inc
  frm p hp := by
    obtain ⟨j, q', y', h1, h2, h3⟩ := h.frm p hp
    exact ⟨j, q', y', h1, h2, .inl (by rcases h3 with h3 | ⟨h3, _⟩ <;> omega)⟩
  clo j hj q' hq' y hy := by
    by_cases hjk : j < k
    · exact h.clo j hjk q' hq' y hy
    · obtain rfl : j = k := by omega
      rw [hq] at hq'
      obtain rfl : q = q' := by injection hq'
      exact h.cur q hq y (hd y hy)
  cur q _ y hy := by cases hy
theorem PInv.least {ps : List (List Nat)} {k : Nat} (h : PInv has n ps k []) (hk : ps.length < k) : ∀ (m : Nat) (l : List Nat), l.length = m + 1 → IsWay has n l → ∃ p ∈ ps, wayEnd n p = wayEnd n l ∧ leW p l
  | m, l, hl, hw => by
    have hne : l ≠ [] := by intro e; rw [e] at hl; simp at hl
    have hsp := List.dropLast_concat_getLast hne
    rw [← hsp] at hw
    rw [isWay_append] at hw
    have hend : wayEnd n l = l.getLast hne := by
      conv => lhs; rw [← hsp]
      rw [wayEnd_append]
      rfl
    have hxy : has (wayEnd n l.dropLast) (l.getLast hne) = true := hw.2.1
    cases m with
    | zero =>
      have hd : l.dropLast = [] := List.length_eq_zero_iff.1 (by simp [hl])
      rw [hd] at hxy
      obtain ⟨p, h1, h2, h3⟩ := h.clo 0 (by omega) [] rfl (l.getLast hne) hxy
      refine ⟨p, h1, by rw [h2, hend], ?_⟩
      rw [hd] at hsp
      rw [← hsp]
      exact h3
    | succ m =>
      obtain ⟨q, h1, h2, h3⟩ := PInv.least h hk m l.dropLast (by simp [hl]) hw.1
      obtain ⟨i, hi⟩ := List.mem_iff_getElem?.1 h1
      have hi' : ([] :: ps)[i + 1]? = some q := hi
      have hlt : i + 1 < k := by have := (List.getElem?_eq_some_iff.1 hi).1; omega
      obtain ⟨p, k1, k2, k3⟩ := h.clo (i + 1) hlt q hi' (l.getLast hne) (by rw [h2]; exact hxy)
      refine ⟨p, k1, by rw [k2, hend], leW_tr k3 ?_⟩
      have := leW_snoc (l.getLast hne) h3
      rwa [hsp] at this
end
end Go.Proofs.YtgphngjniplonaaGreatDoor
namespace Go.Proofs.YtgphngjniplonaaGreatDoor
section
variable {N : Nat} {has : Nat → Nat → Bool}
theorem far_spec (hN : ∀ x y, has x y = true → y < N) {a b d : Nat} (ha : a < N) (h : farN N has a b = d + 1) : (∃ l, l.length = d + 1 ∧ IsWay has a l ∧ wayEnd a l = b) ∧ ∀ l, l ≠ [] → IsWay has a l → wayEnd a l = b → d + 1 ≤ l.length := by
  unfold farN at h
  cases hf : (List.range N).find? fun k => stepsN N has a (k + 1) b with
  | none => rw [hf] at h; simp at h
  | some k =>
    rw [hf] at h
    have hk : k = d := by simpa using h
    subst hk
    rw [List.find?_range_eq_some] at hf
    obtain ⟨h1, h2, h3⟩ := hf
    refine ⟨(steps_iff hN ha (k + 1) b).1 h1, fun l hne hw he => ?_⟩
    by_cases hlt : l.length < k + 1
    · exfalso
      have hpos : 0 < l.length := List.length_pos_iff.2 hne
      have := h3 (l.length - 1) (by omega)
      rw [(steps_iff hN ha _ b).2 ⟨l, by omega, hw, he⟩] at this
      simp at this
    · omega
theorem far_way (hN : ∀ x y, has x y = true → y < N) {a b : Nat} (ha : a < N) {l : List Nat} (hne : l ≠ []) (hw : IsWay has a l) (he : wayEnd a l = b) : 0 < farN N has a b ∧ farN N has a b ≤ l.length := by
  have h0 : 0 < farN N has a b := (far_pos hN ha).2 ⟨l, hne, hw, he⟩
  obtain ⟨d, hd⟩ : ∃ d, farN N has a b = d + 1 := ⟨farN N has a b - 1, by omega⟩
  exact ⟨h0, by rw [hd]; exact (far_spec hN ha hd).2 l hne hw he⟩
def greedy (N : Nat) (has : Nat → Nat → Bool) (b : Nat) : Nat → Nat → List Nat
  | 0, _ => []
  | 1, _ => [b]
  | d + 2, a => match (List.range N).find? (fun x => has a x && decide (farN N has x b = d + 1)) with
    | some x => x :: greedy N has b (d + 1) x
    | none => []
theorem leW_cons {x : Nat} {a b : List Nat} (h : leW a b) : leW (x :: a) (x :: b) := by
  rcases h with rfl | h | ⟨h, h'⟩
  · exact .inl rfl
  · exact .inr (.inl (by simp; exact h))
  · exact .inr (.inr ⟨by simp [h], .inr ⟨rfl, h'⟩⟩)
theorem greedy_least (hN : ∀ x y, has x y = true → y < N) {b : Nat} : ∀ (d a : Nat), a < N → farN N has a b = d + 1 →
    ((greedy N has b (d + 1) a).length = d + 1 ∧ IsWay has a (greedy N has b (d + 1) a) ∧ wayEnd a (greedy N has b (d + 1) a) = b) ∧ ∀ l, l ≠ [] → IsWay has a l → wayEnd a l = b → leW (greedy N has b (d + 1) a) l
  | 0, a, ha, hf => by
    obtain ⟨⟨l, h1, h2, h3⟩, hmin⟩ := far_spec hN ha hf
    have hone : ∀ l : List Nat, l.length = 1 → wayEnd a l = b → l = [b] := fun l hl he => by
      match l, hl with
      | [x], _ => exact congrArg (fun z => [z]) he
    have hl := hone l h1 h3
    subst hl
    refine ⟨⟨rfl, h2, rfl⟩, fun l hne hw he => ?_⟩
    by_cases hlen : l.length = 1
    · exact .inl (hone l hlen he).symm
    · have : 0 < l.length := List.length_pos_iff.2 hne
      exact .inr (.inl (by show 1 < l.length; omega))
  | d + 1, a, ha, hf => by
    obtain ⟨⟨l0, h1, h2, h3⟩, hmin⟩ := far_spec hN ha hf
    -- the node behind the first one of a shortest way
    have hstep : ∀ (x : Nat) (l : List Nat), (x :: l).length = d + 1 + 1 → IsWay has a (x :: l) → wayEnd a (x :: l) = b → has a x = true ∧ farN N has x b = d + 1 ∧ x < N := by
      intro x l hl hw he
      have hx : x < N := hN _ _ hw.1
      have hne : l ≠ [] := by intro e; rw [e] at hl; simp at hl
      obtain ⟨k1, k2⟩ := far_way hN hx hne hw.2 he
      refine ⟨hw.1, ?_, hx⟩
      obtain ⟨e, he'⟩ : ∃ e, farN N has x b = e + 1 := ⟨farN N has x b - 1, by omega⟩
      obtain ⟨⟨l', j1, j2, j3⟩, -⟩ := far_spec hN hx he'
      have := hmin (x :: l') (by simp) ⟨hw.1, j2⟩ j3
      simp at this hl
      omega
    have hne0 : l0 ≠ [] := by intro e; rw [e] at h1; simp at h1
    obtain ⟨x0, t0, rfl⟩ := List.exists_cons_of_ne_nil hne0
    obtain ⟨k1, k2, k3⟩ := hstep x0 t0 h1 h2 h3
    have hsome : ((List.range N).find? (fun x => has a x && decide (farN N has x b = d + 1))).isSome = true := by
      rw [List.find?_isSome]
      exact ⟨x0, by simpa using k3, by simp [k1, k2]⟩
    obtain ⟨x, hx⟩ := Option.isSome_iff_exists.1 hsome
    have hg : greedy N has b (d + 1 + 1) a = x :: greedy N has b (d + 1) x := by
      show (match (List.range N).find? (fun x => has a x && decide (farN N has x b = d + 1)) with
        | some x => x :: greedy N has b (d + 1) x
        | none => []) = _
      rw [hx]
    rw [List.find?_range_eq_some] at hx
    obtain ⟨hp, hxN, hfirst⟩ := hx
    rw [List.mem_range] at hxN
    simp only [Bool.and_eq_true, decide_eq_true_eq] at hp
    obtain ⟨⟨i1, i2, i3⟩, ih⟩ := greedy_least hN d x hxN hp.2
    rw [hg]
    refine ⟨⟨by simp [i1], ⟨hp.1, i2⟩, i3⟩, fun l hne hw he => ?_⟩
    have hle := hmin l hne hw he
    by_cases hlen : l.length = d + 1 + 1
    · obtain ⟨y, t, rfl⟩ := List.exists_cons_of_ne_nil hne
      obtain ⟨m1, m2, m3⟩ := hstep y t hlen hw he
      rcases Nat.lt_trichotomy x y with hxy | hxy | hxy
      · exact .inr (.inr ⟨by simp at hlen; simp [i1, hlen], .inl hxy⟩)
      · subst hxy
        exact leW_cons (ih t (by intro e; rw [e] at hlen; simp at hlen) hw.2 he)
      · have := hfirst y hxy
        simp [m1, m2] at this
    · exact .inr (.inl (by simp [i1]; omega))
theorem path_one (hN : ∀ x y, has x y = true → y < N) {n b d : Nat} (hn : n < N) (hf : farN N has n b = d + 1) {ps : List (List Nat)} {k : Nat} (h : PInv has n ps k []) (hk : ps.length < k) {p : List Nat} (hp : p ∈ ps) (hpb : wayEnd n p = b) (hone : ∀ q ∈ ps, wayEnd n q = b → q = p) : p = greedy N has b (d + 1) n := by
  obtain ⟨⟨g1, g2, g3⟩, gmin⟩ := greedy_least hN d n hn hf
  obtain ⟨q, q1, q2, q3⟩ := h.least hk d _ g1 g2
  rw [hone q q1 (q2.trans g3)] at q3
  exact leW_one q3 (gmin p (h.way p hp).1 (h.way p hp).2 hpb)
end
end Go.Proofs.YtgphngjniplonaaGreatDoor
namespace Go.Proofs.YtgphngjniplonaaGreatDoor
section
variable {has : Nat → Nat → Bool} {n : Nat}
theorem last_snoc (a : Nat) (q : List Nat) (y : Nat) : wayEnd a (q ++ [y]) = y := by rw [wayEnd_append]; rfl
theorem PInv.inner {ps : List (List Nat)} {k : Nat} (h : PInv has n ps k []) (hk : ps.length < k) (hu : ∀ p ∈ ps, ∀ q ∈ ps, wayEnd n p = wayEnd n q → p = q) {q : List Nat} {y : Nat} (hp : q ++ [y] ∈ ps) (hq : q ≠ []) : wayEnd n q ≠ n := by
  intro e
  have hw := (h.way _ hp).2
  rw [isWay_append, e] at hw
  obtain ⟨p', h1, h2, h3⟩ := h.least hk 0 [y] rfl hw.2
  have hpp : p' = q ++ [y] := hu p' h1 _ hp (by rw [h2, last_snoc]; rfl)
  rw [hpp] at h3
  have hl : 0 < q.length := List.length_pos_iff.2 hq
  rcases h3 with h3 | h3 | ⟨h3, -⟩
  · have := congrArg List.length h3; simp at this; exact hq this
  · simp at h3
  · simp at h3; exact hq h3
theorem PInv.pre {ps : List (List Nat)} {k : Nat} {ds : List Nat} (h : PInv has n ps k ds) {q : List Nat} {y : Nat} (hp : q ++ [y] ∈ ps) : q = [] ∨ q ∈ ps := by
  obtain ⟨j, q', y', h1, h2, -⟩ := h.frm _ hp
  have : q = q' := by
    have := List.append_inj' h2 rfl
    exact this.1
  subst this
  rcases List.mem_cons.1 (List.mem_of_getElem? h1) with h3 | h3
  · exact .inl h3
  · exact .inr h3
end
end Go.Proofs.YtgphngjniplonaaGreatDoor
