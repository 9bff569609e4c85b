/- tuple.Right: it says no more than that each value is right. -/
import Derived.Test.YtgomfmfaoeojkaaName
import Derived.Test.YtgomfmfaoeojkaaLong
namespace Go.Proofs.Ytgomfmfaoeojkaa
open Go.RowKit

set_option maxRecDepth 100000 in
theorem wrong_any (v : GV) (w : World) : Calls Try.prog 63 #[v.v] w (RetBool (!rightB v) w) := by
  have hr := Lib.hid (fun w => right_any v w)
  generalize rightB v = b at hr ⊢
  go_enter Try.func63, Try.ntmps63
  go_wp2_with (go_at_call 64; refine (hr.out _).mono ?_; rintro e w1 ⟨rfl, hq1⟩)
  go_ret
  exact ⟨rfl, below_next (belowA (Below.refl _ _) _) hq1⟩

def IdxV (b : Bool) (w : World) (e : Ending) (w' : World) : Prop := ∃ k : Int, e = .returned (.int .i64 k) ∧ decide (0 ≤ k) = b ∧ Below w.heap.size w w'
set_option maxRecDepth 100000 in
set_option maxHeartbeats 1000000 in
theorem indexV_any (A : Option Addr) (n c : Nat) (t : List GV) (w : World) (ht : SliceIs Enc.val w w.heap.size A n c t) :
    Calls Try.prog 76 #[.slice A n c, .func (.func 63) #[] #[]] w (IdxV (!(t.all rightB)) w) := by
  have hn := ht.bound
  have hlen := Lib.hid ht.1
  have HT := Lib.hid ht
  obtain ⟨r, hr⟩ : ∃ r, (!(t.all rightB)) = r := ⟨_, rfl⟩
  rw [hr]
  have Hr := Lib.hid hr
  clear hr ht
  go_enter Try.func76, Try.ntmps76
  go_wp2_with fail
  go_loopw [5, 8] (fun _ i wr => ∃ k : Nat, k ≤ n ∧ i = .int .i64 k ∧ Hid (∀ y ∈ t.take k, rightB y = true) ∧ Below w.heap.size w wr) (fun _ i _ => n - (intOf i).toNat)
  case atStart => exact ⟨0, by omega, rfl, fun y hy => by simp at hy, Below.refl _ _⟩
  case round =>
    obtain ⟨k, hk, rfl, hpre, hbr⟩ := hrel
    by_cases hlt : k < n
    · obtain ⟨b, o, x, rfl, _, hx, x1, x2, x3, hxo⟩ := (HT.out.below hbr).val_at hlt
      have i0 : (0 : Int) ≤ (k : Int) := by omega
      have i1 : (k : Int) < (n : Int) := by omega
      have hcall := wrong_any x wr
      cases hm : rightB x with
      | false =>
        have HM := Lib.hid hm
        rw [hm] at hcall
        clear hm hxo
        go_wp2_with (go_at_call 63; refine hcall.mono ?_; rintro e w1 ⟨rfl, hq1⟩)
        go_ret
        refine ⟨_, rfl, ?_, below_next hbr hq1⟩
        have hf : t.all rightB = false := by
          rw [List.all_eq_false]
          exact ⟨x, List.mem_of_getElem? hx.out, by rw [HM.out]; simp⟩
        rw [← Hr.out, hf]
        simp
      | true =>
        have HM := Lib.hid hm
        rw [hm] at hcall
        clear hm hxo
        go_wp2_with (go_at_call 63; refine hcall.mono ?_; rintro e w1 ⟨rfl, hq1⟩)
        go_roundw
        case rel =>
          refine ⟨k + 1, by omega, by go_num, fun y hy => ?_, below_next hbr hq1⟩
          rw [List.take_add_one, hx.out] at hy
          rcases List.mem_append.1 hy with hy | hy
          · exact hpre.out y hy
          · simp at hy; rw [hy]; exact HM.out
        case measure => simp [intOf]; omega
    · have i1 : ¬ (k : Int) < (n : Int) := by omega
      go_wp2_with fail
      go_ret
      refine ⟨_, rfl, ?_, hbr⟩
      have hf : t.all rightB = true := by
        rw [List.all_eq_true]
        intro y hy
        refine hpre.out y ?_
        rw [List.take_of_length_le (by have := hlen.out; omega)]
        exact hy
      rw [← Hr.out, hf]
      rfl

set_option maxRecDepth 100000 in
theorem containsV_any (A : Option Addr) (n c : Nat) (t : List GV) (w : World) (ht : SliceIs Enc.val w w.heap.size A n c t) :
    Calls Try.prog 65 #[.slice A n c, .func (.func 63) #[] #[]] w (RetBool (!(t.all rightB)) w) := by
  have hi := indexV_any A n c t w ht
  generalize (!(t.all rightB)) = r at hi ⊢
  have hi := Lib.hid hi
  clear ht
  go_enter Try.func65, Try.ntmps65
  go_wp2_with fail
  refine hi.out.mono ?_
  rintro e w1 ⟨k, rfl, hk, hb⟩
  have Hk := Lib.hid hk
  clear hk
  go_wp2_with fail
  go_ret
  exact ⟨by rw [← Hk.out]; rfl, hb⟩

set_option maxRecDepth 100000 in
theorem tright_any (A : Option Addr) (n c : Nat) (t : List GV) (w : World) (ht : SliceIs Enc.val w w.heap.size A n c t) :
    Calls Try.prog 44 #[.slice A n c] w (BoolPost (fun r => r = true → n ≤ 6 ∧ ∀ v ∈ t, rightB v = true) w) := by
  have hn := ht.bound
  by_cases h6 : n ≤ 6
  · have i6 : (n : Int) ≤ 6 := by omega
    have hi := containsV_any A n c t w ht
    cases hr : t.all rightB with
    | true =>
      have HR := Lib.hid hr
      rw [hr] at hi
      have hi := Lib.hid hi
      clear ht hr
      go_enter Try.func44, Try.ntmps44
      go_wp2_with (go_at_call 65; refine hi.out.mono ?_; rintro e w1 ⟨rfl, hq1⟩)
      go_ret
      exact BoolPost.mk true (fun _ => ⟨h6, fun v hv => List.all_eq_true.1 HR.out v hv⟩) hq1
    | false =>
      rw [hr] at hi
      have hi := Lib.hid hi
      clear ht hr
      go_enter Try.func44, Try.ntmps44
      go_wp2_with (go_at_call 65; refine hi.out.mono ?_; rintro e w1 ⟨rfl, hq1⟩)
      go_ret
      exact BoolPost.mk false (fun h => by cases h) hq1
  · have i6 : ¬ (n : Int) ≤ 6 := by omega
    clear ht
    go_enter Try.func44, Try.ntmps44
    go_wp2_with fail
    go_ret
    exact BoolPost.mk false (by simp) (Below.refl _ _)
end Go.Proofs.Ytgomfmfaoeojkaa
