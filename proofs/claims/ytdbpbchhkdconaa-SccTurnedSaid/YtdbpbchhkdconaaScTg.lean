/- The document's Together. -/
import Derived.Test.YtdbpbchhkdconaaScFa
import Derived.Test.YtdbpbchhkdconaaMa1
namespace Go.Proofs.Ytdbpbchhkdconaa
open Go.RowKit

def togR (N : Nat) (l : List GEdge) (a b : Int) : Bool := decide (0 ≤ a) && decide (a < N) && decide (0 ≤ b) && decide (b < N) && togN N (hasN l) a.toNat b.toNat
theorem togR_nat (N : Nat) (l : List GEdge) (a b : Nat) : togR N l (a : Int) (b : Int) = togN N (hasN l) a b := by
  unfold togR togN
  simp only [Int.toNat_natCast]
  by_cases h1 : a < N
  · by_cases h2 : b < N
    · simp [h1, h2]
    · simp [h2]
  · simp [h1]

set_option maxRecDepth 100000 in
set_option maxHeartbeats 8000000 in
theorem refTog_any (N : Nat) (hN : N ≤ 1000) (A : Option Addr) (m c : Nat) (l : List GEdge) (a b : Int) (w : World) (h : SliceIs Enc.edge w w.heap.size A m c l) :
    Calls Try.prog 21 #[.agg #[.int .i64 (N : Int), .slice A m c], .int .i64 a, .int .i64 b] w (RetBool (togR N l a b) w) := by
  have hyu : undef = Value.tuple #[] := rfl
  have cg0 : (w.alloc (.cells #[.int .i64 (N : Int), .slice A m c] 36)).cell? ⟨w.heap.size, 0, none⟩ = some (.int .i64 (N : Int)) := (cell_of_row _ _ 0 _ _ _ (heapNew (w := w) rfl)).trans rfl
  by_cases a0 : a < 0
  · rw [show togR N l a b = false by simp [togR]; omega]
    clear h
    go_enter Try.func21, Try.ntmps21
    go_wp2_with fail
    go_ret
    exact ⟨rfl, belowA (Below.refl _ _) _⟩
  by_cases b0 : b < 0
  · rw [show togR N l a b = false by simp [togR]; omega]
    clear h
    go_enter Try.func21, Try.ntmps21
    go_wp2_with fail
    go_ret
    exact ⟨rfl, belowA (Below.refl _ _) _⟩
  by_cases a1 : (N : Int) ≤ a
  · rw [show togR N l a b = false by simp [togR]; omega]
    clear h
    go_enter Try.func21, Try.ntmps21
    go_wp2_with fail
    go_ret
    exact ⟨rfl, belowA (Below.refl _ _) _⟩
  by_cases b1 : (N : Int) ≤ b
  · rw [show togR N l a b = false by simp [togR]; omega]
    clear h
    go_enter Try.func21, Try.ntmps21
    go_wp2_with fail
    go_ret
    exact ⟨rfl, belowA (Below.refl _ _) _⟩
  obtain ⟨x, rfl⟩ : ∃ x : Nat, a = (x : Int) := ⟨a.toNat, by omega⟩
  obtain ⟨y, rfl⟩ : ∃ y : Nat, b = (y : Int) := ⟨b.toNat, by omega⟩
  have hx : x < N := by omega
  have hy : y < N := by omega
  rw [togR_nat]
  have cg1 : (w.alloc (.cells #[.int .i64 (N : Int), .slice A m c] 36)).cell? ⟨w.heap.size, 1, none⟩ = some (.slice A m c) := (cell_of_row _ _ 1 _ _ _ (heapNew (w := w) rfl)).trans rfl
  have hb0 : Below w.heap.size w (w.alloc (.cells #[.int .i64 (N : Int), .slice A m c] 36)) := belowA (Below.refl _ _) _
  have HB0 := Lib.hid hb0
  obtain ⟨r, Hr⟩ : ∃ r, Hid (togN N (hasN l) x y = r) := ⟨_, rfl⟩
  rw [Hr.out]
  by_cases hxy : x = y
  · subst hxy
    obtain rfl : r = true := by rw [← Hr.out]; simp [togN, hx]
    have z : ((x : Int) == (x : Int)) = true := by simp
    clear h hb0
    go_enter Try.func21, Try.ntmps21
    go_wp2_with fail
    go_ret
    exact ⟨rfl, HB0.out⟩
  · have z : ((x : Int) == (y : Int)) = false := by simp; omega
    have HR : Hid (r = (decide (0 < farN N (hasN l) x y) && decide (0 < farN N (hasN l) y x))) := by
      show _ = _
      rw [← Hr.out]; simp [togN, hx, hy, hxy]
    have HC1 := Lib.hid (refFar_any N hN A m c l x y hx hy _ (h.mono hb0.size hb0.block))
    have HC2 := Lib.hid (fun (W : World) (hW : Below w.heap.size w W) => refFar_any N hN A m c l y x hy hx W (h.mono hW.size hW.block))
    have HK : Hid (∀ W, Below (w.alloc (.cells #[.int .i64 (N : Int), .slice A m c] 36)).heap.size (w.alloc (.cells #[.int .i64 (N : Int), .slice A m c] 36)) W → W.cell? ⟨w.heap.size, 0, none⟩ = some (.int .i64 (N : Int)) ∧ W.cell? ⟨w.heap.size, 1, none⟩ = some (.slice A m c) ∧ Below w.heap.size w W) :=
      fun W hW => ⟨below_cell hW cg0, below_cell hW cg1, hb0.trans (hW.mono hb0.size)⟩
    generalize farN N (hasN l) x y = f1 at *
    generalize farN N (hasN l) y x = f2 at *
    clear h hb0 Hr hxy
    by_cases h1 : 0 < f1
    · have i1 : (0 : Int) < (f1 : Int) := by omega
      by_cases h2 : 0 < f2
      · have i2 : (0 : Int) < (f2 : Int) := by omega
        obtain rfl : r = true := by rw [HR.out]; simp [h1, h2]
        go_enter Try.func21, Try.ntmps21
        go_wp2_with fail
        refine HC1.out.mono ?_
        rintro e w1 ⟨rfl, hb1⟩
        obtain ⟨d0, d1, hb2⟩ := HK.out w1 hb1
        have HC3 := Lib.hid (HC2.out w1 hb2)
        have HB2 := Lib.hid hb2
        clear hb1 hb2
        go_wp2_with fail
        refine HC3.out.mono ?_
        rintro e w2 ⟨rfl, hb3⟩
        have HB3 : Hid (Below w.heap.size w w2) := HB2.out.trans (hb3.mono HB2.out.size)
        clear hb3
        go_wp2_with fail
        go_ret
        exact ⟨rfl, HB3.out⟩
      · have i2 : ¬ (0 : Int) < (f2 : Int) := by omega
        obtain rfl : r = false := by rw [HR.out]; simp [h2]
        go_enter Try.func21, Try.ntmps21
        go_wp2_with fail
        refine HC1.out.mono ?_
        rintro e w1 ⟨rfl, hb1⟩
        obtain ⟨d0, d1, hb2⟩ := HK.out w1 hb1
        have HC3 := Lib.hid (HC2.out w1 hb2)
        have HB2 := Lib.hid hb2
        clear hb1 hb2
        go_wp2_with fail
        refine HC3.out.mono ?_
        rintro e w2 ⟨rfl, hb3⟩
        have HB3 : Hid (Below w.heap.size w w2) := HB2.out.trans (hb3.mono HB2.out.size)
        clear hb3
        go_wp2_with fail
        go_ret
        exact ⟨rfl, HB3.out⟩
    · have i1 : ¬ (0 : Int) < (f1 : Int) := by omega
      obtain rfl : r = false := by rw [HR.out]; simp [h1]
      go_enter Try.func21, Try.ntmps21
      go_wp2_with fail
      refine HC1.out.mono ?_
      rintro e w1 ⟨rfl, hb1⟩
      obtain ⟨d0, d1, hb2⟩ := HK.out w1 hb1
      have HB2 := Lib.hid hb2
      clear hb1 hb2
      go_wp2_with fail
      go_ret
      exact ⟨rfl, HB2.out⟩
end Go.Proofs.Ytdbpbchhkdconaa
