/- The closures of Inside and Round. -/
import Derived.Test.YtdbpbchhkdconaaScG
import Derived.Test.YtdbpbchhkdconaaDrawnS
namespace Go.Proofs.Ytdbpbchhkdconaa
open Go.RowKit

set_option maxRecDepth 100000 in
set_option maxHeartbeats 4000000 in
theorem inside1_any (w : World) (g b n c ua ub pa pb : Nat) (ne : Bool) (hg : w.cell? ⟨g, 0, none⟩ = some (.slice (some ⟨b, 0, none⟩) n c)) (ha : ua < n) (hb : ub < n) (hpa : w.cell? ⟨b, ua, none⟩ = some (.int .i64 (pa : Int))) (hpb : w.cell? ⟨b, ub, none⟩ = some (.int .i64 (pb : Int))) :
    Calls Try.prog 35 #[.agg #[.int .i64 (ua : Int), .int .i64 (ub : Int), .bool ne], .pointer (some ⟨g, 0, none⟩)] w (RetBool (!decide (pa = pb)) w) := by
  have mixed : Try.prog.follows .mixedOrders = true := by kernel_rfl
  have a0 : (0 : Int) ≤ (ua : Int) := by omega
  have a1 : (ua : Int) < (n : Int) := by omega
  have b0 : (0 : Int) ≤ (ub : Int) := by omega
  have b1 : (ub : Int) < (n : Int) := by omega
  obtain ⟨V, HV⟩ : ∃ V, Hid (V = w.alloc (.cells #[.int .i64 (ua : Int), .int .i64 (ub : Int), .bool ne] 32)) := ⟨_, rfl⟩
  have c0 := cellA (o := .cells #[.int .i64 (ua : Int), .int .i64 (ub : Int), .bool ne] 32) hg
  have c1 := cellA (o := .cells #[.int .i64 (ua : Int), .int .i64 (ub : Int), .bool ne] 32) hpa
  have c2 := cellA (o := .cells #[.int .i64 (ua : Int), .int .i64 (ub : Int), .bool ne] 32) hpb
  have c3 : (w.alloc (.cells #[.int .i64 (ua : Int), .int .i64 (ub : Int), .bool ne] 32)).cell? ⟨w.heap.size, 0, none⟩ = some (.int .i64 (ua : Int)) := (cell_of_row _ _ 0 _ _ _ (heapNew (w := w) rfl)).trans rfl
  have c4 : (w.alloc (.cells #[.int .i64 (ua : Int), .int .i64 (ub : Int), .bool ne] 32)).cell? ⟨w.heap.size, 1, none⟩ = some (.int .i64 (ub : Int)) := (cell_of_row _ _ 1 _ _ _ (heapNew (w := w) rfl)).trans rfl
  have hbw : Hid (Below w.heap.size w (w.alloc (.cells #[.int .i64 (ua : Int), .int .i64 (ub : Int), .bool ne] 32)).drew) := Below.drew (belowA (Below.refl _ _) _)
  clear hg hpa hpb HV
  go_enter Try.func35, Try.ntmps35
  go_wp2_with fail
  generalize w.alloc (.cells #[.int .i64 (ua : Int), .int .i64 (ub : Int), .bool ne] 32) = V1 at *
  refine drawnS mixed _ (fun W => W = V1.drew) rfl (by kernel_rfl) rfl rfl ?_
  iterate 12
    apply seqS_op
    · rintro W rfl
      go_wp2_with fail
      exact ⟨rfl, rfl, fun d hd => by cases hd; simp only [List.getElem?_toArray, List.getElem?_cons_succ, List.getElem?_cons_zero]; rfl, rfl⟩
    simp only [Act.put, List.setIfInBounds_toArray, List.set_cons_succ, List.set_cons_zero]
  apply seqS_end
  rintro W rfl
  go_wp2_with fail
  go_ret
  exact ⟨by simp [bne, BEq.beq] <;> omega, hbw.out⟩
end Go.Proofs.Ytdbpbchhkdconaa
