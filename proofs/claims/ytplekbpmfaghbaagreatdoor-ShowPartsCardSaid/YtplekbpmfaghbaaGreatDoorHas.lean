/- slices.Contains at strings and the document's Has. -/
import Derived.Test.YtplekbpmfaghbaaGreatDoorNum
import Derived.Test.YtplekbpmfaghbaaGreatDoorKeep0
namespace Go.Proofs.YtplekbpmfaghbaaGreatDoor
open Go.RowKit

theorem mem_take_succ {l : List ByteArray} {k : Nat} {s x : ByteArray} (hx : l[k]? = some x) : s ∈ l.take (k + 1) ↔ s ∈ l.take k ∨ x = s := by
  rw [List.take_add_one, hx]
  simp [eq_comm]

def IdxMem (b : Bool) (w : World) (e : Ending) (w' : World) : Prop := ∃ k : Int, e = .returned (.int .i64 k) ∧ decide (0 ≤ k) = b ∧ Below w.heap.size w w'
set_option maxRecDepth 100000 in
set_option maxHeartbeats 400000 in
theorem index_any (A : Option Addr) (n c : Nat) (l : List ByteArray) (s : ByteArray) (w : World) (hl : SliceIs Enc.str w w.heap.size A n c l) :
    Calls Tryz.prog 181 #[.slice A n c, .string s] w (IdxMem (decide (s ∈ l)) w) := by
  have hn := hl.bound
  have hlen := Lib.hid hl.1
  go_enter Tryz.func181, Tryz.ntmps181
  go_wp2
  go_loop [5, 8] (fun _ i => ∃ k : Nat, k ≤ n ∧ i = .int .i64 k ∧ Hid (s ∉ l.take k)) (fun _ i => n - (intOf i).toNat)
  case atStart => exact ⟨0, by omega, rfl, by simp [Hid]⟩
  case round =>
    obtain ⟨k, hk, rfl, hpre⟩ := hrel
    by_cases hlt : k < n
    · obtain ⟨b, o, x, rfl, _, hx, hc, hs⟩ := hl.str_at hlt
      have i0 : (0 : Int) ≤ (k : Int) := by omega
      have i1 : (k : Int) < (n : Int) := by omega
      have hb := World.block_lt_of_cell? w _ hc
      clear hl
      by_cases h1 : x = s
      · have h1' : (s.toList == x.toList) = true := by simp [h1]
        have HR : Hid (decide (s ∈ l) = true) := by show decide (s ∈ l) = true; rw [← h1]; simpa using List.mem_of_getElem? hx.out
        clear h1
        go_wp2
        go_ret
        exact ⟨_, rfl, by rw [HR.out]; simp, Below.refl _ _⟩
      · have h1' : (s.toList == x.toList) = false := by simp [toList_inj, Ne.symm h1]
        have HN : Hid (s ∉ l.take (k + 1)) := by
          show ¬ _
          rw [mem_take_succ hx.out]; intro h; rcases h with h | h
          · exact hpre.out h
          · exact h1 h
        clear h1
        go_wp2
        go_round
        case rel => exact ⟨k + 1, by omega, by go_num, HN⟩
        case measure => simp [intOf]; omega
    · have HR : Hid (decide (s ∈ l) = false) := by
        show decide (s ∈ l) = false
        have h := hpre.out
        rw [List.take_of_length_le (by have := hlen.out; omega)] at h
        simpa using h
      have i1 : ¬ (k : Int) < (n : Int) := by omega
      go_wp2
      go_ret
      exact ⟨_, rfl, by rw [HR.out]; rfl, Below.refl _ _⟩

set_option maxRecDepth 100000 in
theorem contains_any (A : Option Addr) (n c : Nat) (l : List ByteArray) (s : ByteArray) (w : World) (hl : SliceIs Enc.str w w.heap.size A n c l) :
    Calls Tryz.prog 211 #[.slice A n c, .string s] w (RetBool (decide (s ∈ l)) w) := by
  have hi := Lib.hid (index_any A n c l s w hl)
  clear hl
  go_enter Tryz.func211, Tryz.ntmps211
  go_wp2_with fail
  refine hi.out.mono ?_
  rintro e w1 ⟨k, rfl, hk, hb⟩
  have Hk := Lib.hid hk
  clear hk
  go_wp2_with fail
  go_ret
  exact ⟨by rw [← Hk.out]; rfl, hb⟩
end Go.Proofs.YtplekbpmfaghbaaGreatDoor
