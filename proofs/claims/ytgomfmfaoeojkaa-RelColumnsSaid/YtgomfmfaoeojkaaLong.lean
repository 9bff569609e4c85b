/- How long texts, tuples and environments are: the statements' own bounds on what is looked at. -/
import Derived.Test.YtgomfmfaoeojkaaProg
import Derived.Test.YtgomfmfaoeojkaaBase
namespace Go.Proofs.Ytgomfmfaoeojkaa
open Go.RowKit

def BoolPost (b : Bool → Prop) (w : World) (e : Ending) (w' : World) : Prop := ∃ r, e = .returned (.bool r) ∧ b r ∧ Below w.heap.size w w'
theorem BoolPost.mk {b : Bool → Prop} {w w' : World} (r : Bool) (hb : b r) (hw : Below w.heap.size w w') : BoolPost b w (.returned (.bool r)) w' := ⟨r, rfl, hb, hw⟩

set_option maxRecDepth 100000 in
set_option maxHeartbeats 1000000 in
theorem long02_any (A : Option Addr) (n c : Nat) (l : List (List GV)) (w : World) (hl : SliceIs (Enc.slice Enc.val) w w.heap.size A n c l) :
    Calls Try.prog 10 #[.slice A n c] w (BoolPost (fun r => r = false → ∀ t ∈ l, t.length ≤ 50) w) := by
  have hn := hl.bound
  go_enter Try.func10, Try.ntmps10
  go_wp2
  go_loopw [3, 5, 7, 10] (fun t _ _ i wr => ∃ k m : Nat, k ≤ n ∧ i = .int .i64 k ∧ t = .int .i64 m ∧ m ≤ 2000 ∧ Hid (∀ t ∈ l.take k, t.length ≤ 50) ∧ Below w.heap.size w wr) (fun _ _ _ i _ => n - (intOf i).toNat)
  case atStart => exact ⟨0, 0, by omega, rfl, rfl, by omega, by simp [Hid], Below.refl _ _⟩
  case round =>
    obtain ⟨k, m, hk, rfl, rfl, hm, hpre, hbw⟩ := hrel
    by_cases hlt : k < n
    · obtain ⟨b, o, s, A1, n1, c1, rfl, hb, hx, hc, h1⟩ := (hl.below hbw).slice_at hlt
      have hn1 := h1.bound
      by_cases h50 : 50 < n1
      · go_wp2
        go_ret
        exact BoolPost.mk _ (by simp) hbw
      · have hpost : Hid (∀ t ∈ l.take (k + 1), t.length ≤ 50) := by
          intro t ht
          rw [List.take_add_one] at ht
          rcases List.mem_append.1 ht with ht | ht
          · exact hpre t ht
          · rw [hx] at ht
            simp at ht
            subst ht
            have := h1.1
            omega
        obtain ⟨wo, ho⟩ : ∃ wo : World, wo = wr := ⟨_, rfl⟩
        subst ho
        clear hpre
        go_wp2
        go_loopw [3, 7, 19] (fun t _ i wr => ∃ k m : Nat, k ≤ n1 ∧ i = .int .i64 k ∧ t = .int .i64 m ∧ m ≤ 2000 ∧ Below w.heap.size w wr) (fun _ _ i _ => n1 - (intOf i).toNat)
        case atStart => exact ⟨0, m, by omega, rfl, rfl, by omega, hbw⟩
        case round =>
          obtain ⟨k1, m1, hk1, rfl, rfl, hm1, hbw1⟩ := hrel
          by_cases hlt1 : k1 < n1
          · obtain ⟨b1, o1, s1, rfl, hb1, hx1, e1, e2, e3, _, _, hs1⟩ := (h1.via hbw hbw1).val_at hlt1
            have hs1 := reachN_le hs1
            by_cases h2 : 2000 < m1 + s1.s.size
            · go_wp2
              go_ret
              exact BoolPost.mk _ (by simp) (hbw1.alloc hbw1.size _)
            · go_wp2
              go_roundw
              case rel => exact ⟨k1 + 1, m1 + s1.s.size, by omega, by go_num, by go_num, by omega, hbw1.alloc hbw1.size _⟩
              case measure => simp [intOf]; omega
          · go_wp2
            go_roundw
            case rel => exact ⟨k + 1, m1, by omega, by go_num, rfl, by omega, hpost, hbw1⟩
            case measure => simp [intOf]; omega
    · go_wp2
      go_ret
      exact BoolPost.mk _ (fun _ => by have h1 := hl.1; have : l.take k = l := List.take_of_length_le (by omega); rw [this] at hpre; exact hpre) hbw

end Go.Proofs.Ytgomfmfaoeojkaa
