/- scc.Together. -/
import Derived.Test.YtdbpbchhkdconaaScPl
namespace Go.Proofs.Ytdbpbchhkdconaa
open Go.RowKit

set_option maxRecDepth 100000 in
set_option maxHeartbeats 4000000 in
theorem tog_any (N : Nat) (hN : N ≤ 32) (A : Option Addr) (m c : Nat) (l : List GEdge) (a b : Int) (w : World) (h : SliceIs Enc.edge w w.heap.size A m c l) (hm : m ≤ 10000) (hr : rightG (N : Int) l = true) :
    Calls Try.prog 11 #[graphV (N : Int) A m c, .int .i64 a, .int .i64 b] w (RetBool (togR N l a b) w) := by
  have mixed : Try.prog.follows .mixedOrders = true := by kernel_rfl
  obtain ⟨hb0, c0, c1⟩ := boxG (N : Int) A m c w
  have HP := Lib.hid (places_any N hN A m c l _ (h.mono hb0.size hb0.block) hm hr)
  have HB0 := Lib.hid hb0
  have HW := Lib.hid (right_in hr)
  clear h hb0 hr
  by_cases a0 : a < 0
  · rw [show togR N l a b = false by simp [togR]; omega]
    have a1 : ¬ (0 : Int) ≤ a := by omega
    go_enter Try.func11, Try.ntmps11
    go_wp2_with fail
    refine HP.out.mono ?_
    rintro e w1 ⟨R, rfl, hR, hrow, hb1⟩
    have HE : Hid (Below w.heap.size w w1.drew) := Below.drew (HB0.out.trans (hb1.mono HB0.out.size))
    clear hb1 hrow hR
    go_wp2_with fail
    refine drawnS mixed _ (fun W => W = w1.drew) rfl (by kernel_rfl) rfl rfl ?_
    have hyu : undef = Value.tuple #[] := rfl
    iterate 30
      apply seqS_op
      · rintro W rfl
        go_wp2_with fail
        exact ⟨rfl, rfl, fun d hd => by cases hd; simp only [List.getElem?_toArray, List.getElem?_cons_succ, List.getElem?_cons_zero]; rfl, rfl⟩
      simp only [Act.put, List.setIfInBounds_toArray, List.set_cons_succ, List.set_cons_zero]
    clear hyu
    apply seqS_end
    rintro W rfl
    go_wp2_with fail
    go_ret
    exact ⟨rfl, HE.out⟩
  have a1 : (0 : Int) ≤ a := by omega
  by_cases b0 : b < 0
  · rw [show togR N l a b = false by simp [togR]; omega]
    have b1 : ¬ (0 : Int) ≤ b := by omega
    go_enter Try.func11, Try.ntmps11
    go_wp2_with fail
    refine HP.out.mono ?_
    rintro e w1 ⟨R, rfl, hR, hrow, hb1⟩
    have HE : Hid (Below w.heap.size w w1.drew) := Below.drew (HB0.out.trans (hb1.mono HB0.out.size))
    clear hb1 hrow hR
    go_wp2_with fail
    refine drawnS mixed _ (fun W => W = w1.drew) rfl (by kernel_rfl) rfl rfl ?_
    have hyu : undef = Value.tuple #[] := rfl
    iterate 30
      apply seqS_op
      · rintro W rfl
        go_wp2_with fail
        exact ⟨rfl, rfl, fun d hd => by cases hd; simp only [List.getElem?_toArray, List.getElem?_cons_succ, List.getElem?_cons_zero]; rfl, rfl⟩
      simp only [Act.put, List.setIfInBounds_toArray, List.set_cons_succ, List.set_cons_zero]
    clear hyu
    apply seqS_end
    rintro W rfl
    go_wp2_with fail
    go_ret
    exact ⟨rfl, HE.out⟩
  have b1 : (0 : Int) ≤ b := by omega
  by_cases a2 : (N : Int) ≤ a
  · rw [show togR N l a b = false by simp [togR]; omega]
    have a3 : ¬ a < (N : Int) := by omega
    go_enter Try.func11, Try.ntmps11
    go_wp2_with fail
    refine HP.out.mono ?_
    rintro e w1 ⟨R, rfl, hR, hrow, hb1⟩
    have HE : Hid (Below w.heap.size w w1.drew) := Below.drew (HB0.out.trans (hb1.mono HB0.out.size))
    clear hb1 hrow hR
    go_wp2_with fail
    refine drawnS mixed _ (fun W => W = w1.drew) rfl (by kernel_rfl) rfl rfl ?_
    have hyu : undef = Value.tuple #[] := rfl
    iterate 30
      apply seqS_op
      · rintro W rfl
        go_wp2_with fail
        exact ⟨rfl, rfl, fun d hd => by cases hd; simp only [List.getElem?_toArray, List.getElem?_cons_succ, List.getElem?_cons_zero]; rfl, rfl⟩
      simp only [Act.put, List.setIfInBounds_toArray, List.set_cons_succ, List.set_cons_zero]
    clear hyu
    apply seqS_end
    rintro W rfl
    go_wp2_with fail
    go_ret
    exact ⟨rfl, HE.out⟩
  have a3 : a < (N : Int) := by omega
  by_cases b2 : (N : Int) ≤ b
  · rw [show togR N l a b = false by simp [togR]; omega]
    have b3 : ¬ b < (N : Int) := by omega
    go_enter Try.func11, Try.ntmps11
    go_wp2_with fail
    refine HP.out.mono ?_
    rintro e w1 ⟨R, rfl, hR, hrow, hb1⟩
    have HE : Hid (Below w.heap.size w w1.drew) := Below.drew (HB0.out.trans (hb1.mono HB0.out.size))
    clear hb1 hrow hR
    go_wp2_with fail
    refine drawnS mixed _ (fun W => W = w1.drew) rfl (by kernel_rfl) rfl rfl ?_
    have hyu : undef = Value.tuple #[] := rfl
    iterate 30
      apply seqS_op
      · rintro W rfl
        go_wp2_with fail
        exact ⟨rfl, rfl, fun d hd => by cases hd; simp only [List.getElem?_toArray, List.getElem?_cons_succ, List.getElem?_cons_zero]; rfl, rfl⟩
      simp only [Act.put, List.setIfInBounds_toArray, List.set_cons_succ, List.set_cons_zero]
    clear hyu
    apply seqS_end
    rintro W rfl
    go_wp2_with fail
    go_ret
    exact ⟨rfl, HE.out⟩
  have b3 : b < (N : Int) := by omega
  obtain ⟨x, rfl⟩ : ∃ x : Nat, a = (x : Int) := ⟨a.toNat, by omega⟩
  obtain ⟨y, rfl⟩ : ∃ y : Nat, b = (y : Int) := ⟨b.toNat, by omega⟩
  have hx : x < N := by omega
  have hy : y < N := by omega
  rw [togR_nat]
  have HT := Lib.hid (plN_tog HW.out hx hy)
  cases htv : togN N (hasN l) x y with
  | true =>
    have z : ((plN N l x : Int) == (plN N l y : Int)) = true := by
      have := HT.out.2 htv
      simp; omega
    clear htv HT
    go_enter Try.func11, Try.ntmps11
    go_wp2_with fail
    refine HP.out.mono ?_
    rintro e w1 ⟨R, rfl, hR, hrow, hb1⟩
    have HE : Hid (Below w.heap.size w w1.drew) := Below.drew (HB0.out.trans (hb1.mono HB0.out.size))
    have p0 : w1.cell? ⟨R, x, none⟩ = some (.int .i64 (plN N l x : Int)) := by rw [cell_of_row _ _ _ _ _ _ hrow]; exact rowF_get hx
    have p1 : w1.cell? ⟨R, y, none⟩ = some (.int .i64 (plN N l y : Int)) := by rw [cell_of_row _ _ _ _ _ _ hrow]; exact rowF_get hy
    clear hb1 hrow hR
    generalize (plN N l x : Int) = px at *
    generalize (plN N l y : Int) = py at *
    go_wp2_with fail
    refine drawnS mixed _ (fun W => W = w1.drew) rfl (by kernel_rfl) rfl rfl ?_
    have hyu : undef = Value.tuple #[] := rfl
    iterate 30
      apply seqS_op
      · rintro W rfl
        go_wp2_with fail
        exact ⟨rfl, rfl, fun d hd => by cases hd; simp only [List.getElem?_toArray, List.getElem?_cons_succ, List.getElem?_cons_zero]; rfl, rfl⟩
      simp only [Act.put, List.setIfInBounds_toArray, List.set_cons_succ, List.set_cons_zero]
    clear hyu
    apply seqS_end
    rintro W rfl
    go_wp2_with fail
    go_ret
    exact ⟨rfl, HE.out⟩
  | false =>
    have z : ((plN N l x : Int) == (plN N l y : Int)) = false := by
      have : ¬ plN N l x = plN N l y := fun hh => by rw [HT.out.1 hh] at htv; cases htv
      simp; omega
    clear htv HT
    go_enter Try.func11, Try.ntmps11
    go_wp2_with fail
    refine HP.out.mono ?_
    rintro e w1 ⟨R, rfl, hR, hrow, hb1⟩
    have HE : Hid (Below w.heap.size w w1.drew) := Below.drew (HB0.out.trans (hb1.mono HB0.out.size))
    have p0 : w1.cell? ⟨R, x, none⟩ = some (.int .i64 (plN N l x : Int)) := by rw [cell_of_row _ _ _ _ _ _ hrow]; exact rowF_get hx
    have p1 : w1.cell? ⟨R, y, none⟩ = some (.int .i64 (plN N l y : Int)) := by rw [cell_of_row _ _ _ _ _ _ hrow]; exact rowF_get hy
    clear hb1 hrow hR
    generalize (plN N l x : Int) = px at *
    generalize (plN N l y : Int) = py at *
    go_wp2_with fail
    refine drawnS mixed _ (fun W => W = w1.drew) rfl (by kernel_rfl) rfl rfl ?_
    have hyu : undef = Value.tuple #[] := rfl
    iterate 30
      apply seqS_op
      · rintro W rfl
        go_wp2_with fail
        exact ⟨rfl, rfl, fun d hd => by cases hd; simp only [List.getElem?_toArray, List.getElem?_cons_succ, List.getElem?_cons_zero]; rfl, rfl⟩
      simp only [Act.put, List.setIfInBounds_toArray, List.set_cons_succ, List.set_cons_zero]
    clear hyu
    apply seqS_end
    rintro W rfl
    go_wp2_with fail
    go_ret
    exact ⟨rfl, HE.out⟩

set_option maxRecDepth 100000 in
set_option maxHeartbeats 4000000 in
theorem tog_bad (n : Int) (A : Option Addr) (m c : Nat) (l : List GEdge) (a b : Int) (w : World) (h : SliceIs Enc.edge w w.heap.size A m c l) (hr : rightG n l = false) :
    Calls Try.prog 11 #[graphV n A m c, .int .i64 a, .int .i64 b] w (RetBool false w) := by
  have mixed : Try.prog.follows .mixedOrders = true := by kernel_rfl
  obtain ⟨hb0, c0, c1⟩ := boxG n A m c w
  have HP := Lib.hid (places_bad n A m c l _ (h.mono hb0.size hb0.block) hr)
  have HB0 := Lib.hid hb0
  clear h hb0 hr
  by_cases a0 : a < 0
  · have a1 : ¬ (0 : Int) ≤ a := by omega
    go_enter Try.func11, Try.ntmps11
    go_wp2_with fail
    refine HP.out.mono ?_
    rintro e w1 ⟨rfl, hb1⟩
    have HE : Hid (Below w.heap.size w w1.drew) := Below.drew (HB0.out.trans (hb1.mono HB0.out.size))
    clear hb1
    go_wp2_with fail
    refine drawnS mixed _ (fun W => W = w1.drew) rfl (by kernel_rfl) rfl rfl ?_
    have hyu : undef = Value.tuple #[] := rfl
    iterate 30
      apply seqS_op
      · rintro W rfl
        go_wp2_with fail
        exact ⟨rfl, rfl, fun d hd => by cases hd; simp only [List.getElem?_toArray, List.getElem?_cons_succ, List.getElem?_cons_zero]; rfl, rfl⟩
      simp only [Act.put, List.setIfInBounds_toArray, List.set_cons_succ, List.set_cons_zero]
    clear hyu
    apply seqS_end
    rintro W rfl
    go_wp2_with fail
    go_ret
    exact ⟨rfl, HE.out⟩
  have a1 : (0 : Int) ≤ a := by omega
  by_cases b0 : b < 0
  · have b1 : ¬ (0 : Int) ≤ b := by omega
    go_enter Try.func11, Try.ntmps11
    go_wp2_with fail
    refine HP.out.mono ?_
    rintro e w1 ⟨rfl, hb1⟩
    have HE : Hid (Below w.heap.size w w1.drew) := Below.drew (HB0.out.trans (hb1.mono HB0.out.size))
    clear hb1
    go_wp2_with fail
    refine drawnS mixed _ (fun W => W = w1.drew) rfl (by kernel_rfl) rfl rfl ?_
    have hyu : undef = Value.tuple #[] := rfl
    iterate 30
      apply seqS_op
      · rintro W rfl
        go_wp2_with fail
        exact ⟨rfl, rfl, fun d hd => by cases hd; simp only [List.getElem?_toArray, List.getElem?_cons_succ, List.getElem?_cons_zero]; rfl, rfl⟩
      simp only [Act.put, List.setIfInBounds_toArray, List.set_cons_succ, List.set_cons_zero]
    clear hyu
    apply seqS_end
    rintro W rfl
    go_wp2_with fail
    go_ret
    exact ⟨rfl, HE.out⟩
  have b1 : (0 : Int) ≤ b := by omega
  have a3 : ¬ a < ((0 : Nat) : Int) := by omega
  go_enter Try.func11, Try.ntmps11
  go_wp2_with fail
  refine HP.out.mono ?_
  rintro e w1 ⟨rfl, hb1⟩
  have HE : Hid (Below w.heap.size w w1.drew) := Below.drew (HB0.out.trans (hb1.mono HB0.out.size))
  clear hb1
  go_wp2_with fail
  refine drawnS mixed _ (fun W => W = w1.drew) rfl (by kernel_rfl) rfl rfl ?_
  have hyu : undef = Value.tuple #[] := rfl
  iterate 30
    apply seqS_op
    · rintro W rfl
      go_wp2_with fail
      exact ⟨rfl, rfl, fun d hd => by cases hd; simp only [List.getElem?_toArray, List.getElem?_cons_succ, List.getElem?_cons_zero]; rfl, rfl⟩
    simp only [Act.put, List.setIfInBounds_toArray, List.set_cons_succ, List.set_cons_zero]
  clear hyu
  apply seqS_end
  rintro W rfl
  go_wp2_with fail
  go_ret
  exact ⟨rfl, HE.out⟩
end Go.Proofs.Ytdbpbchhkdconaa
