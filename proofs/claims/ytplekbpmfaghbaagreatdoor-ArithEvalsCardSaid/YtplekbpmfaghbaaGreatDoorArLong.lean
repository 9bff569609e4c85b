/- How long texts, tuples and environments are: the statements' own bounds on what is looked at. -/
import Derived.Test.YtplekbpmfaghbaaGreatDoorProg
import Derived.Test.YtplekbpmfaghbaaGreatDoorMa1
namespace Go.Proofs.YtplekbpmfaghbaaGreatDoor
open Go.RowKit

def BoolPost (b : Bool → Prop) (w : World) (e : Ending) (w' : World) : Prop := ∃ r, e = .returned (.bool r) ∧ b r ∧ Below w.heap.size w w'
theorem BoolPost.mk {b : Bool → Prop} {w w' : World} (r : Bool) (hb : b r) (hw : Below w.heap.size w w') : BoolPost b w (.returned (.bool r)) w' := ⟨r, rfl, hb, hw⟩

set_option maxRecDepth 100000 in
set_option maxHeartbeats 400000 in
theorem long13_any (A : Option Addr) (n c : Nat) (l : List GTold) (w : World) (hl : SliceIs Enc.told w w.heap.size A n c l) :
    Calls Tryz.prog 38 #[.slice A n c] w (BoolPost (fun r => r = false → n ≤ 31) w) := by
  have hn := hl.bound
  go_enter Tryz.func38, Tryz.ntmps38
  go_wp2
  go_loopw [3, 4, 5, 8] (fun t _ _ i wr => ∃ k m : Nat, k ≤ n ∧ i = .int .i64 k ∧ t = .int .i64 m ∧ m ≤ 1500 ∧ k ≤ 31 ∧ Below w.heap.size w wr) (fun _ _ _ i _ => n - (intOf i).toNat)
  case atStart => exact ⟨0, 0, by omega, rfl, rfl, by omega, by omega, Below.refl _ _⟩
  case round =>
    obtain ⟨k, m, hk, rfl, rfl, hm, hk31, hbw⟩ := hrel
    by_cases hlt : k < n
    · obtain ⟨b, o, s, rfl, hb, hx, hc, hc1, hc2, hc3, hs, ⟨_, _, hs2⟩⟩ := (hl.below hbw).told_at hlt
      have hs2 := reachN_le hs2
      clear hl
      by_cases h1 : 30 < k
      · go_wp2
        go_ret
        exact BoolPost.mk _ (by simp) (hbw.alloc hbw.size _)
      · by_cases h2 : 1500 < m + (s.x.size + s.v.s.size)
        · go_wp2
          go_ret
          exact BoolPost.mk _ (by simp) (hbw.alloc hbw.size _)
        · go_wp2
          go_roundw
          case rel => exact ⟨k + 1, m + (s.x.size + s.v.s.size), by omega, by go_num, by go_num, by omega, by omega, (hbw.alloc hbw.size _)⟩
          case measure => simp [intOf]; omega
    · go_wp2
      go_ret
      exact BoolPost.mk _ (fun _ => by omega) hbw
end Go.Proofs.YtplekbpmfaghbaaGreatDoor
