/- The document's Has: is there an edge? -/
import Derived.Test.YtdbpbchhkdconaaScG
namespace Go.Proofs.Ytdbpbchhkdconaa
open Go.RowKit

def hasL (l : List GEdge) (a b : Int) : Bool := l.any (fun e => decide (e.a = a) && decide (e.b = b))
set_option maxRecDepth 100000 in
set_option maxHeartbeats 4000000 in
theorem refHas_any (n : Int) (A : Option Addr) (m c : Nat) (l : List GEdge) (a b : Int) (w : World) (h : SliceIs Enc.edge w w.heap.size A m c l) : Calls Try.prog 48 #[.agg #[.int .i64 n, .slice A m c], .int .i64 a, .int .i64 b] w (RetBool (hasL l a b) w) := by
  have hm := h.bound
  have Hlen := Lib.hid h.1
  obtain ⟨r, Hr⟩ : ∃ r, Hid (hasL l a b = r) := ⟨_, rfl⟩
  rw [Hr.out]
  have HS := Lib.hid h
  clear h
  go_enter Try.func48, Try.ntmps48
  go_wp2_with fail
  have hb0 : Below w.heap.size w (w.alloc (.cells #[.int .i64 n, .slice A m c] 36)) := belowA (Below.refl _ _) _
  have c1 : (w.alloc (.cells #[.int .i64 n, .slice A m c] 36)).cell? ⟨w.heap.size, 1, none⟩ = some (.slice A m c) := (cell_of_row _ _ 1 _ _ _ (heapNew (w := w) rfl)).trans rfl
  generalize w.alloc (.cells #[.int .i64 n, .slice A m c] 36) = V at hb0 c1 ⊢
  have Hb0 := Lib.hid hb0
  clear hb0
  go_loopw [7] (fun i wr => ∃ k : Nat, k ≤ m ∧ i = .int .i64 (k : Int) ∧ wr = V ∧ Hid (∀ e ∈ l.take k, ¬ (e.a = a ∧ e.b = b))) (fun i _ => m - (intOf i).toNat)
  case atStart => exact ⟨0, by omega, rfl, rfl, fun e he => by simp at he⟩
  case round =>
    obtain ⟨k, hk, rfl, rfl, Hk⟩ := hrel
    have i0 : (0 : Int) ≤ (k : Int) := by omega
    by_cases hlt : k < m
    · have i1 : (k : Int) < (m : Int) := by omega
      obtain ⟨b', o, x, rfl, -, hx, x0, x1, -, -⟩ := (HS.out.mono Hb0.out.size Hb0.out.block).edge_at hlt
      by_cases h1 : x.a = a ∧ x.b = b
      · obtain rfl : r = true := by
          rw [← Hr.out]
          unfold hasL
          rw [List.any_eq_true]
          exact ⟨x, List.mem_of_getElem? hx.out, by simp [h1.1, h1.2]⟩
        have z1 : (x.a == a) = true := by simp [h1.1]
        have z2 : (x.b == b) = true := by simp [h1.2]
        clear h1 hx
        go_wp2_with fail
        go_ret
        exact ⟨rfl, Hb0.out⟩
      · have Hk2 : Hid (∀ e ∈ l.take (k + 1), ¬ (e.a = a ∧ e.b = b)) := fun e he => by
          rw [List.take_add_one, hx.out] at he
          rcases List.mem_append.1 he with he | he
          · exact Hk.out e he
          · simp at he; subst he; exact h1
        by_cases h2 : x.a = a
        · have z1 : (x.a == a) = true := by simp [h2]
          have z2 : (x.b == b) = false := by simp; exact fun h => h1 ⟨h2, h⟩
          clear h1 h2 hx
          go_wp2_with fail
          go_roundw
          case rel => exact ⟨k + 1, by omega, by go_num, trivial, Hk2⟩
          case measure => simp [intOf]; omega
        · have z1 : (x.a == a) = false := by simp [h2]
          clear h1 h2 hx
          go_wp2_with fail
          go_roundw
          case rel => exact ⟨k + 1, by omega, by go_num, trivial, Hk2⟩
          case measure => simp [intOf]; omega
    · have i1 : ¬ (k : Int) < (m : Int) := by omega
      obtain rfl : r = false := by
        rw [← Hr.out]
        unfold hasL
        rw [Bool.eq_false_iff]
        intro hh
        rw [List.any_eq_true] at hh
        obtain ⟨e, he, h3⟩ := hh
        simp at h3
        exact Hk.out e (by rw [List.take_of_length_le (by rw [Hlen.out]; omega)]; exact he) h3
      go_wp2_with fail
      go_ret
      exact ⟨rfl, Hb0.out⟩
end Go.Proofs.Ytdbpbchhkdconaa
