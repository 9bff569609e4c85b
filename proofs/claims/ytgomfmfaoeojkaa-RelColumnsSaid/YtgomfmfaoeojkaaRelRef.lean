/- The document's answer for relations: Same, Has; what is too large to be looked at. -/
import Derived.Test.YtgomfmfaoeojkaaRelCopy
import Derived.Test.YtgomfmfaoeojkaaLong
namespace Go.Proofs.Ytgomfmfaoeojkaa
open Go.RowKit

theorem same_less (a b : List GV) : (!lessL a b && !lessL b a) = decide (a = b) := by
  by_cases h : a = b
  · subst h
    have : ¬ lessL a a = true := by rw [less_iff, cmpL_self]; decide
    simp [this]
  · have h0 : cmpL a b ≠ 0 := fun hc => h ((cmpL_zero a b).1 hc)
    have hn := cmpL_neg a b
    have hr := cmpL_cases a b
    have : lessL a b = true ∨ lessL b a = true := by
      rw [less_iff, less_iff]
      omega
    rcases this with q | q <;> simp [q, h]

set_option maxRecDepth 100000 in
set_option maxHeartbeats 400000 in
theorem refTSame_any (A B : Option Addr) (n c m d : Nat) (l l' : List GV) (w : World) (hx : SliceIs Enc.val w w.heap.size A n c l) (hy : SliceIs Enc.val w w.heap.size B m d l') :
    Calls Try.prog 47 #[.slice A n c, .slice B m d] w (RetBool (decide (l = l')) w) := by
  have H1 := Lib.hid (refTLess_any A B n c m d l l' w hx hy)
  have H2 := Lib.hid (fun (W : World) (hb : Below w.heap.size w W) => refTLess_any B A m d n c l' l W (hy.mono hb.size hb.block) (hx.mono hb.size hb.block))
  have HS := Lib.hid (same_less l l')
  generalize decide (l = l') = r at HS ⊢
  generalize lessL l l' = r1 at H1 HS
  generalize lessL l' l = r2 at H2 HS
  clear hx hy
  go_enter Try.func47, Try.ntmps47
  go_wp2_with fail
  refine H1.out.mono ?_
  rintro e w1 ⟨rfl, hq⟩
  cases r1
  · go_wp2_with fail
    refine (H2.out w1 hq).mono ?_
    rintro e w2 ⟨rfl, hq2⟩
    go_wp2_with fail
    go_ret
    exact ⟨by rw [← HS.out]; simp, below_next hq hq2⟩
  · go_wp2_with fail
    go_ret
    exact ⟨by rw [← HS.out]; simp, hq⟩

set_option maxRecDepth 100000 in
set_option maxHeartbeats 400000 in
theorem large_any (A : Option Addr) (n c : Nat) (l : List (List GV)) (w : World) (hl : SliceIs (Enc.slice Enc.val) w w.heap.size A n c l) :
    Calls Try.prog 9 #[.slice A n c] w (BoolPost (fun r => r = false → l.length ≤ 60 ∧ ∀ t ∈ l, t.length ≤ 50) w) := by
  have H1 := Lib.hid (long02_any A n c l w hl)
  have hll := Lib.hid hl.1
  clear hl
  by_cases h : 60 < n
  · have h' : (60 : Int) < (n : Int) := by omega
    go_enter Try.func9, Try.ntmps9
    go_wp2_with fail
    go_ret
    exact BoolPost.mk _ (by simp) (Below.refl _ _)
  · have h' : ¬ (60 : Int) < (n : Int) := by omega
    go_enter Try.func9, Try.ntmps9
    go_wp2_with fail
    refine H1.out.mono ?_
    rintro e w1 ⟨r, rfl, hr, hq⟩
    have HRr := Lib.hid hr
    clear hr
    go_wp2_with fail
    go_ret
    exact BoolPost.mk _ (fun hf => ⟨by have : l.length = n := hll.out; omega, HRr.out (by simpa using hf)⟩) hq
end Go.Proofs.Ytgomfmfaoeojkaa
